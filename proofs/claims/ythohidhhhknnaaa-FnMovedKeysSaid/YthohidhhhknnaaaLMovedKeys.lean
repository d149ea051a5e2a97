/- FnMovedKeys: moved keys are those whose shards change: proved for every input, with no condition. -/
import Derived.Test.YthohidhhhknnaaaFrame
import Derived.Test.YthohidhhhknnaaaDrawM
import Derived.Test.YthohidhhhknnaaaEqL
import Derived.Test.YthohidhhhknnaaaPureSh
import Derived.Deep.RegionHeld3
namespace Go.Proofs.Ythohidhhhknnaaa
open Go.ChangeShapes Go.WideShapes Go.ChangeAt Go.RowKit
set_option linter.unusedVariables false
namespace fnMovedKeys
/-- what the two shards and the answer have to do with each other -/
theorem fits {L : List M.Item} {s t : Int} {x : M.Item} (hx : x ∈ L) (h1 : 0 ≤ M.shardOf x.key s) (h2 : 0 ≤ M.shardOf x.key t) (hv : M.validStore L = true) : (decide (x.key ∈ M.MovedKeys L s t) != (M.shardOf x.key s != M.shardOf x.key t)) = false := by
  obtain ⟨a1, a2, a3, a4, a5⟩ := M.shardOf_of h1
  obtain ⟨b1, b2, b3, b4, b5⟩ := M.shardOf_of h2
  rw [a5, b5]
  by_cases h : M.sh x.key s = M.sh x.key t
  · rw [decide_eq_false (fun h9 => (M.mem_MovedKeys hv a3 a4 b3 b4 hx).1 h9 h), h]; simp
  · rw [decide_eq_true ((M.mem_MovedKeys hv a3 a4 b3 b4 hx).2 h)]; simp [h]
set_option maxHeartbeats 2000000 in
theorem walk (w : World) (A : Option Addr) (c : Nat) (bs : List Int) (h2 : bs.length ≤ c) (h3 : ∀ x ∈ bs, 0 ≤ x ∧ x ≤ 255) (h4 : Rd w 0 w.heap.size A (bs.map (.int .u8))) :
    Calls Try.prog 9 #[.slice A bs.length c] w fun e w' => e = .returned (.bool true) ∧ w.grownBy w' none := by
  have H2 := Lib.hid h2
  have H3 := Lib.hid h3
  have H4 := Lib.hid h4
  clear h2 h3 h4
  by_cases hb : bs.length ≤ 1048576
  · have hb' : (bs.length : Int) ≤ 1048576 := by omega
    go_enter Try.func9, Try.ntmps9
    go_wp2_with fail
    refine (drawMovedKeys_any w A c bs H2.out hb H3.out H4.out).mono ?_
    rintro e W ⟨A1, c1, L, s, t, rfl, hs0, hs1, hn0, hn1, hc1, hd, hg⟩
    have D := Lib.hid hd
    have G := Lib.hid hg
    clear hd hg
    go_wp2_with fail
    refine (mk_impl D.out).mono ?_
    rintro e W ⟨A2, c2, rfl, hc2, hd, hg⟩
    replace D := Lib.hid (D.out.on hg)
    replace G := Lib.hid (gb_trans G.out hg)
    have E := Lib.hid hd
    clear hg hd
    go_wp2_with fail
    refine (mk_spec D.out).mono ?_
    rintro e W ⟨A3, c3, rfl, hc3, hd, hg⟩
    replace D := Lib.hid (D.out.on hg)
    replace E := Lib.hid (E.out.on hg)
    replace G := Lib.hid (gb_trans G.out hg)
    have F := Lib.hid hd
    clear hg hd
    go_wp2_with fail
    refine (ei_any E.out F.out).mono ?_
    rintro e W ⟨rfl, hg⟩
    replace D := Lib.hid (D.out.on hg)
    replace E := Lib.hid (E.out.on hg)
    replace G := Lib.hid (gb_trans G.out hg)
    rw [decide_eq_true rfl]
    clear hg F
    obtain ⟨q, hq⟩ : ∃ q, q = (M.ShardItems L s 0).length := ⟨_, rfl⟩
    obtain ⟨m, hm⟩ : ∃ m, m = (M.MovedKeys L s t).length := ⟨_, rfl⟩
    go_wp2_with fail
    refine (si_impl D.out).mono ?_
    rintro e W ⟨A5, c5, rfl, hc5, hd, hg⟩
    replace D := Lib.hid (D.out.on hg)
    replace E := Lib.hid (E.out.on hg)
    replace G := Lib.hid (gb_trans G.out hg)
    rw [← hq, ← hm]
    have hq9 : q ≤ 1048576 := by rw [hq]; exact (small_shard D.out.2 _ _).1
    have hm9 : m ≤ 1048576 := by rw [hm]; exact E.out.2
    have HQ := Lib.hid hq
    have HM := Lib.hid hm
    clear hg hd hq hm hc5
    by_cases hg : q = 0 ∧ m = 0
    · obtain ⟨rfl, rfl⟩ := hg
      have HN : Hid (M.MovedKeys L s t = []) := Lib.hid (List.eq_nil_of_length_eq_zero HM.out.symm)
      have E0 := Lib.hid (HN.out ▸ E.out : SeesN .i64 _ A2 [])
      have C1 : Hid (∀ W', SeesI W' A1 L → Calls Try.prog 18 #[.slice A1 L.length c1, .int .i64 s, .int .i64 t] W' (GotN .i64 W' [])) := Lib.hid fun W' h => HN.out ▸ mk_spec h
      go_wp2_with fail
      refine (C1.out _ D.out).mono ?_
      rintro e W ⟨A4, c4, rfl, hc4, hd, hg⟩
      replace D := Lib.hid (D.out.on hg)
      replace E0 := Lib.hid (E0.out.on hg)
      replace G := Lib.hid (gb_trans G.out hg)
      have F := Lib.hid hd
      clear hg hd
      go_wp2_with fail
      refine (ei_any (l := []) (m := []) E0.out F.out).mono ?_
      rintro e W ⟨rfl, hg⟩
      replace G := Lib.hid (gb_trans G.out hg)
      clear hg
      go_wp2_with fail
      go_ret
      exact ⟨rfl, G.out⟩
    · have HV : Hid (M.validStore L = true) := Lib.hid (by
        cases hv : M.validStore L
        · exfalso
          apply hg
          rw [HQ.out, HM.out, M.ShardItems_bad (.inl hv), M.MovedKeys_bad (.inl hv)]
          exact ⟨rfl, rfl⟩
        · rfl)
      clear HQ
      by_cases hq0 : q = 0
      · subst hq0
        have tm : ((m : Int) == 0) = false := beq_eq_false_iff_ne.2 (by omega)
        clear hg
        obtain ⟨n, hn⟩ : ∃ n, n = L.length := ⟨_, rfl⟩
        have hn16 : n ≤ 16 := by rw [hn]; exact (M.validStore_of HV.out).1
        rw [← hn]
        have HL := Lib.hid hn
        have HLL := Lib.hid hn.symm
        clear hn hc1
        go_wp2_with fail
        go_loopw [7] (fun i wr => ∃ k : Nat, k ≤ n ∧ i = .int .i64 k ∧ SeesI wr A1 L ∧ SeesN .i64 wr A2 (M.MovedKeys L s t) ∧ w.grownBy wr none) (fun i _ => n - (intOf i).toNat)
        case atStart => exact ⟨0, Nat.zero_le _, rfl, D.out, E.out, G.out⟩
        case round =>
          obtain ⟨k, hk, rfl, hd, he, hg⟩ := hrel
          have D := Lib.hid hd
          have E := Lib.hid he
          have G := Lib.hid hg
          clear hd he hg
          by_cases hlt : k < n
          · have hkl : k < L.length := by rw [← HL.out]; exact hlt
            obtain ⟨b, o, hA, hb1, hb2, hI⟩ := D.out.1.at_ (List.getElem?_eq_getElem hkl)
            subst hA
            obtain ⟨u, d0, d1, d2, hu⟩ := hI
            have HX := Lib.hid (show L[k] ∈ L from List.getElem_mem hkl)
            have kn : (k : Int) < n := by omega
            have k0 : (0 : Int) ≤ k := by omega
            clear d1 d2 hu
            generalize L[k] = y at *
            obtain ⟨ra, hra⟩ : ∃ ra, M.shardOf y.key s = ra := ⟨_, rfl⟩
            obtain ⟨rb, hrb⟩ : ∃ rb, M.shardOf y.key t = rb := ⟨_, rfl⟩
            have HA := Lib.hid hra
            have HB := Lib.hid hrb
            clear hra hrb
            go_wp2_with fail
            refine (ShardOf_impl _ _ _).mono ?_
            rintro e w' ⟨rfl, rfl⟩
            rw [HA.out]
            go_wp2_with fail
            refine (ShardOf_impl _ _ _).mono ?_
            rintro e w' ⟨rfl, rfl⟩
            rw [HB.out]
            by_cases ha : 0 ≤ ra
            · by_cases hbb : 0 ≤ rb
              · have HF := fits (s := s) (t := t) HX.out (by rw [HA.out]; exact ha) (by rw [HB.out]; exact hbb) HV.out
                rw [HA.out, HB.out] at HF
                have HF := Lib.hid HF
                go_wp2_with fail
                rw [HM.out]
                refine (isIn_any (n := y.key) E.out).mono ?_
                rintro e w2 ⟨rfl, hg⟩
                rw [← HM.out]
                have G2 := Lib.hid hg
                have HF2 : (!(decide (y.key ∈ M.MovedKeys L s t) == (ra != rb))) = false := HF.out
                clear HF
                clear hg
                go_wp2_with fail
                go_roundw
                case rel => exact ⟨k + 1, by omega, by go_num, D.out.on G2.out, E.out.on G2.out, gb_trans G.out G2.out⟩
                case measure => simp [intOf]; omega
              · go_wp2_with fail
                go_roundw
                case rel => exact ⟨k + 1, by omega, by go_num, D.out, E.out, G.out⟩
                case measure => simp [intOf]; omega
            · go_wp2_with fail
              go_roundw
              case rel => exact ⟨k + 1, by omega, by go_num, D.out, E.out, G.out⟩
              case measure => simp [intOf]; omega
          · obtain rfl : k = n := by omega
            have C1 := Lib.hid (M.MovedKeys_flip L s t ▸ mk_impl (c := c1) (f := t) (t := s) D.out)
            go_wp2_with fail
            rw [HL.out]
            refine (C1.out).mono ?_
            rintro e W ⟨A4, c4, rfl, hc4, hd, hg⟩
            replace D := Lib.hid (D.out.on hg)
            replace E := Lib.hid (E.out.on hg)
            replace G := Lib.hid (gb_trans G.out hg)
            have F := Lib.hid hd
            clear hg hd
            go_wp2_with fail
            rw [HM.out]
            refine (ei_any F.out E.out).mono ?_
            rintro e W ⟨rfl, hg⟩
            rw [decide_eq_true rfl]
            replace G := Lib.hid (gb_trans G.out hg)
            replace D := Lib.hid (D.out.on hg)
            clear hg
            have C2 := Lib.hid (M.MovedKeys_same (L := L) (f := s) ▸ mk_impl (c := c1) (f := s) (t := s) D.out)
            go_wp2_with fail
            refine (C2.out).mono ?_
            rintro e W ⟨A6, c6, rfl, hc6, hd, hg⟩
            replace G := Lib.hid (gb_trans G.out hg)
            clear hg hd
            go_wp2_with fail
            go_ret
            exact ⟨rfl, G.out⟩
      · have tq : ((q : Int) == 0) = false := beq_eq_false_iff_ne.2 (by omega)
        clear hg
        obtain ⟨n, hn⟩ : ∃ n, n = L.length := ⟨_, rfl⟩
        have hn16 : n ≤ 16 := by rw [hn]; exact (M.validStore_of HV.out).1
        rw [← hn]
        have HL := Lib.hid hn
        have HLL := Lib.hid hn.symm
        clear hn hc1
        go_wp2_with fail
        go_loopw [7] (fun i wr => ∃ k : Nat, k ≤ n ∧ i = .int .i64 k ∧ SeesI wr A1 L ∧ SeesN .i64 wr A2 (M.MovedKeys L s t) ∧ w.grownBy wr none) (fun i _ => n - (intOf i).toNat)
        case atStart => exact ⟨0, Nat.zero_le _, rfl, D.out, E.out, G.out⟩
        case round =>
          obtain ⟨k, hk, rfl, hd, he, hg⟩ := hrel
          have D := Lib.hid hd
          have E := Lib.hid he
          have G := Lib.hid hg
          clear hd he hg
          by_cases hlt : k < n
          · have hkl : k < L.length := by rw [← HL.out]; exact hlt
            obtain ⟨b, o, hA, hb1, hb2, hI⟩ := D.out.1.at_ (List.getElem?_eq_getElem hkl)
            subst hA
            obtain ⟨u, d0, d1, d2, hu⟩ := hI
            have HX := Lib.hid (show L[k] ∈ L from List.getElem_mem hkl)
            have kn : (k : Int) < n := by omega
            have k0 : (0 : Int) ≤ k := by omega
            clear d1 d2 hu
            generalize L[k] = y at *
            obtain ⟨ra, hra⟩ : ∃ ra, M.shardOf y.key s = ra := ⟨_, rfl⟩
            obtain ⟨rb, hrb⟩ : ∃ rb, M.shardOf y.key t = rb := ⟨_, rfl⟩
            have HA := Lib.hid hra
            have HB := Lib.hid hrb
            clear hra hrb
            go_wp2_with fail
            refine (ShardOf_impl _ _ _).mono ?_
            rintro e w' ⟨rfl, rfl⟩
            rw [HA.out]
            go_wp2_with fail
            refine (ShardOf_impl _ _ _).mono ?_
            rintro e w' ⟨rfl, rfl⟩
            rw [HB.out]
            by_cases ha : 0 ≤ ra
            · by_cases hbb : 0 ≤ rb
              · have HF := fits (s := s) (t := t) HX.out (by rw [HA.out]; exact ha) (by rw [HB.out]; exact hbb) HV.out
                rw [HA.out, HB.out] at HF
                have HF := Lib.hid HF
                go_wp2_with fail
                rw [HM.out]
                refine (isIn_any (n := y.key) E.out).mono ?_
                rintro e w2 ⟨rfl, hg⟩
                rw [← HM.out]
                have G2 := Lib.hid hg
                have HF2 : (!(decide (y.key ∈ M.MovedKeys L s t) == (ra != rb))) = false := HF.out
                clear HF
                clear hg
                go_wp2_with fail
                go_roundw
                case rel => exact ⟨k + 1, by omega, by go_num, D.out.on G2.out, E.out.on G2.out, gb_trans G.out G2.out⟩
                case measure => simp [intOf]; omega
              · go_wp2_with fail
                go_roundw
                case rel => exact ⟨k + 1, by omega, by go_num, D.out, E.out, G.out⟩
                case measure => simp [intOf]; omega
            · go_wp2_with fail
              go_roundw
              case rel => exact ⟨k + 1, by omega, by go_num, D.out, E.out, G.out⟩
              case measure => simp [intOf]; omega
          · obtain rfl : k = n := by omega
            have C1 := Lib.hid (M.MovedKeys_flip L s t ▸ mk_impl (c := c1) (f := t) (t := s) D.out)
            go_wp2_with fail
            rw [HL.out]
            refine (C1.out).mono ?_
            rintro e W ⟨A4, c4, rfl, hc4, hd, hg⟩
            replace D := Lib.hid (D.out.on hg)
            replace E := Lib.hid (E.out.on hg)
            replace G := Lib.hid (gb_trans G.out hg)
            have F := Lib.hid hd
            clear hg hd
            go_wp2_with fail
            rw [HM.out]
            refine (ei_any F.out E.out).mono ?_
            rintro e W ⟨rfl, hg⟩
            rw [decide_eq_true rfl]
            replace G := Lib.hid (gb_trans G.out hg)
            replace D := Lib.hid (D.out.on hg)
            clear hg
            have C2 := Lib.hid (M.MovedKeys_same (L := L) (f := s) ▸ mk_impl (c := c1) (f := s) (t := s) D.out)
            go_wp2_with fail
            refine (C2.out).mono ?_
            rintro e W ⟨A6, c6, rfl, hc6, hd, hg⟩
            replace G := Lib.hid (gb_trans G.out hg)
            clear hg hd
            go_wp2_with fail
            go_ret
            exact ⟨rfl, G.out⟩
  · · have hb' : (1048576 : Int) < bs.length := by omega
      generalize bs.length = L at *
      go_enter Try.func9, Try.ntmps9
      go_wp2
      go_ret
      exact ⟨rfl, gb_refl _ _⟩
end fnMovedKeys
/-! the row's step -/
namespace fnMovedKeys
set_option maxRecDepth 100000 in
theorem lifted (os : Os) (started : os.Started) (H : Type) (enc : TypeId × Value → H) :
    ReturnsInHanded {} Try.checked os 9 .any (Rows.fnMovedKeysSpec.pre6 enc Try.prog Try.f9 Rows.fnMovedKeysRow.domain false) (Rows.fnMovedKeysSpec.post enc Try.prog Try.f9 false true false false) := by
  refine returnsInHanded_of_change (C := Try.checked) own started (by kernel_rfl) Try.func9
    (ChangeSpec.witness6 (enc := enc) (C := Try.checked) false ⟨#[], #[.slice none 0 0], []⟩ 8 (by kernel_rfl) (by kernel_rfl) (by kernel_rfl) (by kernel_rfl)) ?_
  intro W base args ds gs before hval0 hW hcnd _
  have hval : ∀ (j : Nat) t v, Try.f9.params[j]? = some t → args[j]? = some v → Value.okWide Try.prog W .any base t v := hval0
  have hW' := hW
  obtain ⟨p, q, hA0, hV, rfl, hfz, hnd⟩ := hW
  have hA : DataW.TrodAll enc Try.prog W 0 (fun _ => true) true Try.f9.params.toList args.toList ds p := hA0
  rw [Try.params9] at hA hval
  obtain ⟨v0, vs0, d0, ds0, p0, q0, hargs, rfl, rfl, h0, r0⟩ := trodAll_cons hA
  obtain ⟨rfl, rfl, rfl⟩ := trodAll_nil r0
  obtain rfl : args = #[v0] := by cases args; simp_all
  obtain ⟨rfl, rfl⟩ := trodVars_none hV
  obtain ⟨a0, len0, cap0, rfl⟩ := okWide_slice Try.underlying22 (hval 0 22 v0 rfl rfl)
  have k0 := h0
  have lt0 : ∀ x ∈ p0, x.block < W.heap.size := by obtain ⟨m, hm⟩ := k0; exact DataW.trod_lt m _ _ _ hm
  obtain ⟨bs, rfl, b1, b2, b3⟩ := code_row h0
  clear hA0 hval0
  refine (walk W a0 cap0 bs b1 b2 b3).mono fun e W' ⟨he, bel0⟩ => ?_
  have bel := gb_below bel0
  subst he
  exact ⟨_, rfl, _, _, _, [], _, [], hW', trodAll_mk1 (shut_bool Try.underlying4 _), (trodAll_cons_mk (Below.trod laidOut (by kernel_rfl) (of_decide_eq_true (by kernel_rfl)) k0 bel lt0) trodAll_mk0), rfl, bel.frame _, fun h => by cases h⟩
set_option maxRecDepth 100000 in
theorem over : Rows.fnMovedKeysRow.holds Try.pinned (OpenSpec.ofChange Rows.fnMovedKeysSpec) :=
  OpenClaim.holds_of_wide 9 Try.f9 rfl rfl rfl rfl rfl rfl rfl ⟨rfl, rfl, rfl, rfl, rfl⟩ rfl rfl rfl rfl rfl (by kernel_rfl) Try.func9 (by kernel_rfl)
    (of_decide_eq_true (by kernel_rfl)) (by unfold Func.isWrapper; first | (rw [if_pos (by decide +kernel)]; kernel_rfl) | (rw [if_neg (by decide +kernel)]; exact ⟨rfl, rfl⟩))
    (fun os started H enc _ => lifted os started H enc)
theorem proved : Rows.FnMovedKeysSaid := over
end fnMovedKeys
end Go.Proofs.Ythohidhhhknnaaa
