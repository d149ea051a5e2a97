/- FnShardItems: all items are in shards: proved for every input, with no condition. -/
import Derived.Test.YthohidhhhknnaaaFrame
import Derived.Test.YthohidhhhknnaaaDrawM
import Derived.Test.YthohidhhhknnaaaEqL
import Derived.Test.YthohidhhhknnaaaPureSh
namespace Go.Proofs.Ythohidhhhknnaaa
open Go.ChangeShapes Go.WideShapes Go.ChangeAt Go.RowKit
set_option linter.unusedVariables false
namespace fnShardItems
theorem found {L : List M.Item} {s : Int} {k : Int} (hv : M.validStore L = true) {y : M.Item} (hy : y ∈ M.shardItems L s k) : ∃ i, ∃ hi : i < L.length, L[i] = y ∧ ∀ j (hj : j < i), (L[j]'(by omega)).key ≠ L[i].key := by
  obtain ⟨i, hi, rfl⟩ := List.getElem_of_mem (List.mem_filter.1 hy).1
  exact ⟨i, hi, rfl, fun j hj => by have := M.keys_apart hv hi (by omega) hj; omega⟩
theorem sh_of {L : List M.Item} {s : Int} {k : Int} {y : M.Item} (hy : y ∈ M.shardItems L s k) : M.sh y.key s = k := of_decide_eq_true (List.mem_filter.1 hy).2
set_option maxHeartbeats 4000000 in
theorem walk (w : World) (A : Option Addr) (c : Nat) (bs : List Int) (h2 : bs.length ≤ c) (h3 : ∀ x ∈ bs, 0 ≤ x ∧ x ≤ 255) (h4 : Rd w 0 w.heap.size A (bs.map (.int .u8))) :
    Calls Try.prog 10 #[.slice A bs.length c] w fun e w' => e = .returned (.bool true) ∧ w.grownBy w' none := by
  have H2 := Lib.hid h2
  have H3 := Lib.hid h3
  have H4 := Lib.hid h4
  clear h2 h3 h4
  by_cases hb : bs.length ≤ 1048576
  · have hb' : (bs.length : Int) ≤ 1048576 := by omega
    go_enter Try.func10, Try.ntmps10
    go_wp2_with fail
    refine (drawShardItems_any w A c bs H2.out hb H3.out H4.out).mono ?_
    rintro e W ⟨A1, c1, L, s, t, rfl, hs0, hs1, hn0, hn1, hc1, hd, hg⟩
    have D := Lib.hid hd
    have G := Lib.hid hg
    clear hd hg
    go_wp2_with fail
    refine (si_impl D.out).mono ?_
    rintro e W ⟨A2, c2, rfl, hc2, hd, hg⟩
    replace D := Lib.hid (D.out.on hg)
    replace G := Lib.hid (gb_trans G.out hg)
    have E := Lib.hid hd
    clear hg hd
    go_wp2_with fail
    refine (si_spec D.out).mono ?_
    rintro e W ⟨A3, c3, rfl, hc3, hd, hg⟩
    replace D := Lib.hid (D.out.on hg)
    replace E := Lib.hid (E.out.on hg)
    replace G := Lib.hid (gb_trans G.out hg)
    have F := Lib.hid hd
    clear hg hd
    go_wp2_with fail
    refine (eqi_same E.out F.out).mono ?_
    rintro e W ⟨rfl, hg⟩
    replace D := Lib.hid (D.out.on hg)
    replace E := Lib.hid (E.out.on hg)
    replace G := Lib.hid (gb_trans G.out hg)
    clear hg F
    go_wp2_with fail
    refine (vs_impl D.out).mono ?_
    rintro e W ⟨rfl, hg⟩
    replace D := Lib.hid (D.out.on hg)
    replace E := Lib.hid (E.out.on hg)
    replace G := Lib.hid (gb_trans G.out hg)
    clear hg
    cases hv : M.validStore L
    · clear hv
      go_wp2_with fail
      refine (si_spec D.out).mono ?_
      rintro e W ⟨A4, c4, rfl, hc4, hd, hg⟩
      replace D := Lib.hid (D.out.on hg)
      replace E := Lib.hid (E.out.on hg)
      replace G := Lib.hid (gb_trans G.out hg)
      have F := Lib.hid hd
      clear hg hd
      go_wp2_with fail
      refine (eqi_same E.out F.out).mono ?_
      rintro e W ⟨rfl, hg⟩
      replace D := Lib.hid (D.out.on hg)
      replace E := Lib.hid (E.out.on hg)
      replace G := Lib.hid (gb_trans G.out hg)
      clear hg
      go_wp2_with fail
      go_ret
      exact ⟨rfl, G.out⟩
    · have HV := Lib.hid hv
      clear hv
      by_cases h1 : 1 ≤ s
      · by_cases h2 : s ≤ 8
        · obtain ⟨s', rfl⟩ := Int.eq_ofNat_of_zero_le (show 0 ≤ s by omega)
          have HVO := Lib.hid (show M.validStore (M.ShardItems L s' t) = true by rw [M.ShardItems_eq HV.out h1 h2]; exact M.valid_filter HV.out _)
          have hL16 := (M.validStore_of HV.out).1
          go_wp2_with fail
          go_loopw [7, 8] (fun a i wr => ∃ k : Nat, k ≤ s' ∧ i = .int .i64 k ∧ a = .int .i64 (M.cnt L s' k) ∧ SeesI wr A1 L ∧ SeesI wr A2 (M.ShardItems L s' t) ∧ w.grownBy wr none) (fun _ i _ => s' - (intOf i).toNat)
          case atStart => exact ⟨0, Nat.zero_le _, rfl, by rw [M.cnt_zero HV.out h1 h2]; rfl, D.out, E.out, G.out⟩
          case round =>
            obtain ⟨k, hk, rfl, rfl, hd, he, hg⟩ := hrel
            have D := Lib.hid hd
            have E := Lib.hid he
            have G := Lib.hid hg
            clear hd he hg
            have hcn : M.cnt L s' k ≤ 16 := Nat.le_trans (List.length_filter_le _ _) hL16
            by_cases hlt : k < s'
            · have C1 := Lib.hid (M.ShardItems_eq (n := k) HV.out h1 h2 ▸ si_impl (c := c1) (s := s') (m := k) D.out)
              go_wp2_with fail
              refine (C1.out).mono ?_
              rintro e W ⟨A5, c5, rfl, hc5, hd, hg⟩
              replace D := Lib.hid (D.out.on hg)
              replace E := Lib.hid (E.out.on hg)
              replace G := Lib.hid (gb_trans G.out hg)
              have F := Lib.hid hd
              clear hg hd C1
              have HC := Lib.hid (M.cnt_succ L s' k)
              have hp16 : (M.shardItems L s' k).length ≤ 16 := Nat.le_trans (List.length_filter_le _ _) hL16
              obtain ⟨P, hP⟩ : ∃ P, P = M.shardItems L s' k := ⟨_, rfl⟩
              rw [← hP] at hp16 hc5 F HC ⊢
              have HP := Lib.hid hP
              clear hP
              obtain ⟨n, hn⟩ : ∃ n, n = P.length := ⟨_, rfl⟩
              rw [← hn] at hp16 hc5 HC ⊢
              have HN := Lib.hid hn
              clear hn hc5
              go_wp2_with fail
              go_loopw [10] (fun i wr => ∃ j : Nat, j ≤ n ∧ i = .int .i64 j ∧ SeesI wr A1 L ∧ SeesI wr A2 (M.ShardItems L s' t) ∧ SeesI wr A5 P ∧ w.grownBy wr none) (fun i _ => n - (intOf i).toNat)
              case atStart => exact ⟨0, Nat.zero_le _, rfl, D.out, E.out, F.out, G.out⟩
              case round =>
                obtain ⟨j, hj, rfl, hd, he, hf, hg⟩ := hrel
                replace D := Lib.hid hd
                replace E := Lib.hid he
                replace F := Lib.hid hf
                replace G := Lib.hid hg
                clear hd he hf hg
                by_cases hjn : j < n
                · have hjl : j < P.length := by rw [← HN.out]; exact hjn
                  have HY := Lib.hid (show P[j] ∈ M.shardItems L s' k by rw [← HP.out]; exact List.getElem_mem hjl)
                  obtain ⟨i, hi, hxi, hfi⟩ := found HV.out HY.out
                  obtain ⟨ul, hul, hcall⟩ := itemOf_at (c := c1) D.out hi hfi
                  obtain ⟨b, o, hA, hb1, hb2, hI⟩ := F.out.1.at_ (List.getElem?_eq_getElem hjl)
                  subst hA
                  obtain ⟨u, d0, d1, d2, hu⟩ := hI
                  rw [hxi] at hcall hul
                  have hpl : P[j].pos.length ≤ 1048576 := F.out.2.2 _ (List.getElem_mem hjl)
                  have hk9 := M.key_of_valid ((M.validStore_of HV.out).2.1 _ (List.mem_filter.1 HY.out).1)
                  have HSK := Lib.hid ((M.shardOf_eq (s := s') hk9.1 hk9.2 h1 h2).trans (sh_of HY.out))
                  obtain ⟨Au, cu, rfl, hcu, hru⟩ := hu
                  obtain ⟨Al, cl, rfl, hcl, hrl⟩ := hul
                  have HE : Hid (∀ W : World, wr.grownBy W none → Calls Try.prog 36 #[.agg #[.int .i64 P[j].key, .slice Au P[j].pos.length cu, .int .i64 P[j].tags], .agg #[.int .i64 P[j].key, .slice Al P[j].pos.length cl, .int .i64 P[j].tags]] W fun e w' => e = .returned (.bool true) ∧ W.grownBy w' none) := Lib.hid fun W hW => by
                    have h := equalItem_any W (.slice Au P[j].pos.length cu) (.slice Al P[j].pos.length cl) 0 wr.heap.size 0 wr.heap.size P[j] P[j] hpl ⟨_, _, rfl, hcu, hru.keep hW (Nat.le_refl _)⟩ ⟨_, _, rfl, hcl, hrl.keep hW (Nat.le_refl _)⟩ hW.size hW.size
                    rwa [eqItemB_self] at h
                  have HCL := Lib.hid hcall
                  have l0 : ∀ x : Later wr, x.w.cell? ⟨b, o + j * 3, none⟩ = some (.int .i64 P[j].key) := fun x => x.cell d0
                  have l1 : ∀ x : Later wr, x.w.cell? ⟨b, o + j * 3 + 1, none⟩ = some (.slice Au P[j].pos.length cu) := fun x => x.cell d1
                  have l2 : ∀ x : Later wr, x.w.cell? ⟨b, o + j * 3 + 2, none⟩ = some (.int .i64 P[j].tags) := fun x => x.cell d2
                  have kn : (j : Int) < n := by omega
                  have k0 : (0 : Int) ≤ j := by omega
                  have tk : ((k : Int) != (k : Int)) = false := by simp
                  clear d0 d1 d2 hcall hcu hru hcl hrl hk9 hxi hfi hi HY
                  generalize P[j] = y at *
                  go_wp2_with fail
                  refine wp_region_later (by kernel_rfl) (by kernel_rfl) ?_
                  repeat (go_big_quiet_step ((first | (go_at_call 32; exact later_same (HSK.out ▸ ShardOf_impl _ _ _)) | (go_at_call 37; exact later_call (HCL.out _ (Later.h _))) | (go_at_call 36; exact later_call (HE.out _ (Later.h _))))))
                  refine wpQuiet_nil ?_
                  rintro _ ⟨x, rfl⟩
                  go_wp2_with fail
                  go_roundw
                  case rel => exact ⟨j + 1, by omega, by go_num, D.out.on x.h, E.out.on x.h, F.out.on x.h, gb_trans G.out x.h⟩
                  case measure => simp [intOf]; omega
                · obtain rfl : j = n := by omega
                  go_wp2_with fail
                  go_roundw
                  case rel => exact ⟨k + 1, by omega, by go_num, by rw [HC.out]; go_num, D.out, E.out, G.out⟩
                  case measure => simp [intOf]; omega
            · obtain rfl : k = s' := by omega
              have HC := Lib.hid (M.cnt_all HV.out (by omega) (by omega) : M.cnt L k k = L.length)
              rw [HC.out]
              have te : ((L.length : Int) == L.length) = true := by simp
              go_wp2_with fail
              refine (vs_impl E.out).mono ?_
              rintro e W ⟨rfl, hg⟩
              replace G := Lib.hid (gb_trans G.out hg)
              clear hg
              rw [HVO.out]
              go_wp2_with fail
              go_ret
              exact ⟨rfl, G.out⟩
        · go_wp2_with fail
          refine (si_spec D.out).mono ?_
          rintro e W ⟨A4, c4, rfl, hc4, hd, hg⟩
          replace D := Lib.hid (D.out.on hg)
          replace E := Lib.hid (E.out.on hg)
          replace G := Lib.hid (gb_trans G.out hg)
          have F := Lib.hid hd
          clear hg hd
          go_wp2_with fail
          refine (eqi_same E.out F.out).mono ?_
          rintro e W ⟨rfl, hg⟩
          replace D := Lib.hid (D.out.on hg)
          replace E := Lib.hid (E.out.on hg)
          replace G := Lib.hid (gb_trans G.out hg)
          clear hg
          go_wp2_with fail
          go_ret
          exact ⟨rfl, G.out⟩
      · go_wp2_with fail
        refine (si_spec D.out).mono ?_
        rintro e W ⟨A4, c4, rfl, hc4, hd, hg⟩
        replace D := Lib.hid (D.out.on hg)
        replace E := Lib.hid (E.out.on hg)
        replace G := Lib.hid (gb_trans G.out hg)
        have F := Lib.hid hd
        clear hg hd
        go_wp2_with fail
        refine (eqi_same E.out F.out).mono ?_
        rintro e W ⟨rfl, hg⟩
        replace D := Lib.hid (D.out.on hg)
        replace E := Lib.hid (E.out.on hg)
        replace G := Lib.hid (gb_trans G.out hg)
        clear hg
        go_wp2_with fail
        go_ret
        exact ⟨rfl, G.out⟩
  · · have hb' : (1048576 : Int) < bs.length := by omega
      generalize bs.length = L at *
      go_enter Try.func10, Try.ntmps10
      go_wp2
      go_ret
      exact ⟨rfl, gb_refl _ _⟩
end fnShardItems
/-! the row's step -/
namespace fnShardItems
set_option maxRecDepth 100000 in
theorem lifted (os : Os) (started : os.Started) (H : Type) (enc : TypeId × Value → H) :
    ReturnsInHanded {} Try.checked os 10 .any (Rows.fnShardItemsSpec.pre6 enc Try.prog Try.f10 Rows.fnShardItemsRow.domain false) (Rows.fnShardItemsSpec.post enc Try.prog Try.f10 false true false false) := by
  refine returnsInHanded_of_change (C := Try.checked) own started (by kernel_rfl) Try.func10
    (ChangeSpec.witness6 (enc := enc) (C := Try.checked) false ⟨#[], #[.slice none 0 0], []⟩ 8 (by kernel_rfl) (by kernel_rfl) (by kernel_rfl) (by kernel_rfl)) ?_
  intro W base args ds gs before hval0 hW hcnd _
  have hval : ∀ (j : Nat) t v, Try.f10.params[j]? = some t → args[j]? = some v → Value.okWide Try.prog W .any base t v := hval0
  have hW' := hW
  obtain ⟨p, q, hA0, hV, rfl, hfz, hnd⟩ := hW
  have hA : DataW.TrodAll enc Try.prog W 0 (fun _ => true) true Try.f10.params.toList args.toList ds p := hA0
  rw [Try.params10] at hA hval
  obtain ⟨v0, vs0, d0, ds0, p0, q0, hargs, rfl, rfl, h0, r0⟩ := trodAll_cons hA
  obtain ⟨rfl, rfl, rfl⟩ := trodAll_nil r0
  obtain rfl : args = #[v0] := by cases args; simp_all
  obtain ⟨rfl, rfl⟩ := trodVars_none hV
  obtain ⟨a0, len0, cap0, rfl⟩ := okWide_slice Try.underlying22 (hval 0 22 v0 rfl rfl)
  have k0 := h0
  have lt0 : ∀ x ∈ p0, x.block < W.heap.size := by obtain ⟨m, hm⟩ := k0; exact DataW.trod_lt m _ _ _ hm
  obtain ⟨bs, rfl, b1, b2, b3⟩ := code_row h0
  clear hA0 hval0
  refine (walk W a0 cap0 bs b1 b2 b3).mono fun e W' ⟨he, bel0⟩ => ?_
  have bel := gb_below bel0
  subst he
  exact ⟨_, rfl, _, _, _, [], _, [], hW', trodAll_mk1 (shut_bool Try.underlying4 _), (trodAll_cons_mk (Below.trod laidOut (by kernel_rfl) (of_decide_eq_true (by kernel_rfl)) k0 bel lt0) trodAll_mk0), rfl, bel.frame _, fun h => by cases h⟩
set_option maxRecDepth 100000 in
theorem over : Rows.fnShardItemsRow.holds Try.pinned (OpenSpec.ofChange Rows.fnShardItemsSpec) :=
  OpenClaim.holds_of_wide 10 Try.f10 rfl rfl rfl rfl rfl rfl rfl ⟨rfl, rfl, rfl, rfl, rfl⟩ rfl rfl rfl rfl rfl (by kernel_rfl) Try.func10 (by kernel_rfl)
    (of_decide_eq_true (by kernel_rfl)) (by unfold Func.isWrapper; first | (rw [if_pos (by decide +kernel)]; kernel_rfl) | (rw [if_neg (by decide +kernel)]; exact ⟨rfl, rfl⟩))
    (fun os started H enc _ => lifted os started H enc)
theorem proved : Rows.FnShardItemsSaid := over
end fnShardItems
end Go.Proofs.Ythohidhhhknnaaa
