/- FnMovedKeysHalf: few keys move: proved for every input, with no condition. -/
import Derived.Test.YthohidhhhknnaaaFrame
import Derived.Test.YthohidhhhknnaaaDrawM
import Derived.Test.YthohidhhhknnaaaEqL
import Derived.Test.YthohidhhhknnaaaPureSh
import Derived.Deep.RegionHeld3
namespace Go.Proofs.Ythohidhhhknnaaa
open Go.ChangeShapes Go.WideShapes Go.ChangeAt Go.RowKit
set_option linter.unusedVariables false
namespace fnMovedKeysHalf
set_option maxHeartbeats 2000000 in
theorem walk (w : World) (A : Option Addr) (c : Nat) (bs : List Int) (h2 : bs.length ≤ c) (h3 : ∀ x ∈ bs, 0 ≤ x ∧ x ≤ 255) (h4 : Rd w 0 w.heap.size A (bs.map (.int .u8))) :
    Calls Try.prog 7 #[.slice A bs.length c] w fun e w' => e = .returned (.bool true) ∧ w.grownBy w' none := by
  have H2 := Lib.hid h2
  have H3 := Lib.hid h3
  have H4 := Lib.hid h4
  clear h2 h3 h4
  by_cases hb : bs.length ≤ 1048576
  · have hb' : (bs.length : Int) ≤ 1048576 := by omega
    go_enter Try.func7, Try.ntmps7
    go_wp2_with fail
    refine (drawMovedKeys_any w A c bs H2.out hb H3.out H4.out).mono ?_
    rintro e W ⟨A1, c1, L, s, t, rfl, hs0, hs1, hn0, hn1, hc1, hd, hg⟩
    have D := Lib.hid hd
    have G := Lib.hid hg
    clear hd hg
    go_wp2_with fail
    refine (mk_impl D.out).mono ?_
    rintro e W ⟨A2, c2, rfl, hc2, hd, hg⟩
    replace D := Lib.hid (D.out.on hg)
    replace G := Lib.hid (gb_trans G.out hg)
    have E := Lib.hid hd
    clear hg hd
    go_wp2_with fail
    refine (mk_spec D.out).mono ?_
    rintro e W ⟨A3, c3, rfl, hc3, hd, hg⟩
    replace D := Lib.hid (D.out.on hg)
    replace E := Lib.hid (E.out.on hg)
    replace G := Lib.hid (gb_trans G.out hg)
    have F := Lib.hid hd
    clear hg hd
    go_wp2_with fail
    refine (ei_any E.out F.out).mono ?_
    rintro e W ⟨rfl, hg⟩
    replace D := Lib.hid (D.out.on hg)
    replace E := Lib.hid (E.out.on hg)
    replace G := Lib.hid (gb_trans G.out hg)
    rw [decide_eq_true rfl]
    clear hg F
    go_wp2_with fail
    refine (vs_impl D.out).mono ?_
    rintro e W ⟨rfl, hg⟩
    replace D := Lib.hid (D.out.on hg)
    replace E := Lib.hid (E.out.on hg)
    replace G := Lib.hid (gb_trans G.out hg)
    clear hg
    cases hv : M.validStore L
    · clear hv
      go_wp2_with fail
      refine (mk_spec D.out).mono ?_
      rintro e W ⟨A4, c4, rfl, hc4, hd, hg⟩
      replace D := Lib.hid (D.out.on hg)
      replace E := Lib.hid (E.out.on hg)
      replace G := Lib.hid (gb_trans G.out hg)
      have F := Lib.hid hd
      clear hg hd
      go_wp2_with fail
      refine (ei_any E.out F.out).mono ?_
      rintro e W ⟨rfl, hg⟩
      replace D := Lib.hid (D.out.on hg)
      replace E := Lib.hid (E.out.on hg)
      replace G := Lib.hid (gb_trans G.out hg)
      rw [decide_eq_true rfl]
      clear hg
      go_wp2_with fail
      go_ret
      exact ⟨rfl, G.out⟩
    · have HV := Lib.hid hv
      clear hv
      by_cases h1 : 1 ≤ s
      · by_cases h2 : s ≤ 8
        · obtain ⟨n, hn⟩ : ∃ n, n = L.length := ⟨_, rfl⟩
          have hn16 : n ≤ 16 := by rw [hn]; exact (M.validStore_of HV.out).1
          rw [← hn]
          have HL := Lib.hid hn
          clear hn hc1
          go_wp2_with fail
          go_loopw [7] (fun i wr => ∃ k : Nat, k ≤ n ∧ i = .int .i64 k ∧ SeesI wr A1 L ∧ w.grownBy wr none) (fun i _ => n - (intOf i).toNat)
          case atStart => exact ⟨0, Nat.zero_le _, rfl, D.out, G.out⟩
          case round =>
            obtain ⟨k, hk, rfl, hd, hg⟩ := hrel
            have D := Lib.hid hd
            have G := Lib.hid hg
            clear hd hg
            by_cases hlt : k < n
            · have hkl : k < L.length := by rw [← HL.out]; exact hlt
              obtain ⟨b, o, hA, hb1, hb2, hI⟩ := D.out.1.at_ (List.getElem?_eq_getElem hkl)
              subst hA
              obtain ⟨u, d0, d1, d2, hu⟩ := hI
              have HM := Lib.hid (show L[k] ∈ L from List.getElem_mem hkl)
              have hkey := M.key_of_valid ((M.validStore_of HV.out).2.1 _ HM.out)
              have HS := Lib.hid (M.shardOf_eq hkey.1 hkey.2 h1 h2)
              have kn : (k : Int) < n := by omega
              have k0 : (0 : Int) ≤ k := by omega
              clear d1 d2 hu
              generalize L[k] = y at *
              by_cases hz : M.sh y.key s = 0
              · have HZ := Lib.hid hz
                clear hz
                go_wp2_with fail
                have DD := Lib.hid (D.out.on (gb_drew (gb_refl wr none)))
                have HLL := Lib.hid HL.out.symm
                have NM := Lib.hid (decide_eq_false (show ¬ y.key ∈ M.MovedKeys L s 1 from fun h => by
                  rw [M.mem_MovedKeys HV.out h1 h2 (by omega) (by omega) HM.out, HZ.out, M.sh_one hkey.1 hkey.2] at h
                  exact h rfl))
                have d0' : wr.drew.cell? ⟨b, o + k * 3, none⟩ = some (.int .i64 y.key) := d0
                go_region_held3 (fun w' => w'.cell? ⟨b, o + k * 3, none⟩ = some (.int .i64 y.key)) (first | go_keep | assumption)
                  (first | (go_at_call 32; refine (ShardOf_impl _ _ _).mono ?_; rintro e w' ⟨rfl, rfl⟩; rw [HS.out, HZ.out]) | (go_at_call 20; rw [HL.out]; refine (mk_impl DD.out).mono ?_; rintro e w1 ⟨A9, c9, rfl, hc9, hd, hg⟩; rw [HLL.out]; have e0 : w1.cell? ⟨b, o + k * 3, none⟩ = some (.int .i64 y.key) := hg.cell d0' (by simp); have E9 := Lib.hid hd; have G9 := Lib.hid (gb_trans (gb_drew (gb_refl wr none)) hg); clear hd hg) | (go_at_call 33; refine (isIn_any E9.out).mono ?_; rintro e w2 ⟨rfl, hg⟩; rw [NM.out]; have e2 : w2.cell? ⟨b, o + k * 3, none⟩ = some (.int .i64 y.key) := hg.cell e0 (by simp); have G10 := Lib.hid (gb_trans G9.out hg); clear hg))
                go_wp2_with fail
                go_roundw
                case rel => exact ⟨k + 1, by omega, by go_num, D.out.on G10.out, gb_trans G.out G10.out⟩
                case measure => simp [intOf]; omega
              · have tz : (M.sh y.key s == 0) = false := beq_eq_false_iff_ne.2 hz
                clear hz
                have l0 : ∀ x : Later wr, x.w.cell? ⟨b, o + k * 3, none⟩ = some (.int .i64 y.key) := fun x => x.cell d0
                go_wp2_with fail
                refine wp_region_later (by kernel_rfl) (by kernel_rfl) ?_
                repeat (go_big_quiet_step ((go_at_call 32; exact later_same (HS.out ▸ ShardOf_impl _ _ _))))
                refine wpQuiet_nil ?_
                rintro _ ⟨x, rfl⟩
                go_wp2_with fail
                go_roundw
                case rel => exact ⟨k + 1, by omega, by go_num, D.out.on x.h, gb_trans G.out x.h⟩
                case measure => simp [intOf]; omega
            · obtain rfl : k = n := by omega
              have C1 : Hid (Calls Try.prog 20 #[.slice A1 k c1, .int .i64 s, .int .i64 s] wr (GotN .i64 wr [])) := Lib.hid (by rw [HL.out]; exact (M.MovedKeys_same (L := L) (f := s)) ▸ mk_impl D.out)
              go_wp2_with fail
              refine (C1.out).mono ?_
              rintro e W ⟨A4, c4, rfl, hc4, hd, hg⟩
              replace G := Lib.hid (gb_trans G.out hg)
              clear hg hd
              go_wp2_with fail
              go_ret
              exact ⟨rfl, G.out⟩
        · go_wp2_with fail
          refine (mk_spec D.out).mono ?_
          rintro e W ⟨A4, c4, rfl, hc4, hd, hg⟩
          replace D := Lib.hid (D.out.on hg)
          replace E := Lib.hid (E.out.on hg)
          replace G := Lib.hid (gb_trans G.out hg)
          have F := Lib.hid hd
          clear hg hd
          go_wp2_with fail
          refine (ei_any E.out F.out).mono ?_
          rintro e W ⟨rfl, hg⟩
          replace D := Lib.hid (D.out.on hg)
          replace E := Lib.hid (E.out.on hg)
          replace G := Lib.hid (gb_trans G.out hg)
          rw [decide_eq_true rfl]
          clear hg
          go_wp2_with fail
          go_ret
          exact ⟨rfl, G.out⟩
      · go_wp2_with fail
        refine (mk_spec D.out).mono ?_
        rintro e W ⟨A4, c4, rfl, hc4, hd, hg⟩
        replace D := Lib.hid (D.out.on hg)
        replace E := Lib.hid (E.out.on hg)
        replace G := Lib.hid (gb_trans G.out hg)
        have F := Lib.hid hd
        clear hg hd
        go_wp2_with fail
        refine (ei_any E.out F.out).mono ?_
        rintro e W ⟨rfl, hg⟩
        replace D := Lib.hid (D.out.on hg)
        replace E := Lib.hid (E.out.on hg)
        replace G := Lib.hid (gb_trans G.out hg)
        rw [decide_eq_true rfl]
        clear hg
        go_wp2_with fail
        go_ret
        exact ⟨rfl, G.out⟩
  · · have hb' : (1048576 : Int) < bs.length := by omega
      generalize bs.length = L at *
      go_enter Try.func7, Try.ntmps7
      go_wp2
      go_ret
      exact ⟨rfl, gb_refl _ _⟩
end fnMovedKeysHalf
/-! the row's step -/
namespace fnMovedKeysHalf
set_option maxRecDepth 100000 in
theorem lifted (os : Os) (started : os.Started) (H : Type) (enc : TypeId × Value → H) :
    ReturnsInHanded {} Try.checked os 7 .any (Rows.fnMovedKeysHalfSpec.pre6 enc Try.prog Try.f7 Rows.fnMovedKeysHalfRow.domain false) (Rows.fnMovedKeysHalfSpec.post enc Try.prog Try.f7 false true false false) := by
  refine returnsInHanded_of_change (C := Try.checked) own started (by kernel_rfl) Try.func7
    (ChangeSpec.witness6 (enc := enc) (C := Try.checked) false ⟨#[], #[.slice none 0 0], []⟩ 8 (by kernel_rfl) (by kernel_rfl) (by kernel_rfl) (by kernel_rfl)) ?_
  intro W base args ds gs before hval0 hW hcnd _
  have hval : ∀ (j : Nat) t v, Try.f7.params[j]? = some t → args[j]? = some v → Value.okWide Try.prog W .any base t v := hval0
  have hW' := hW
  obtain ⟨p, q, hA0, hV, rfl, hfz, hnd⟩ := hW
  have hA : DataW.TrodAll enc Try.prog W 0 (fun _ => true) true Try.f7.params.toList args.toList ds p := hA0
  rw [Try.params7] at hA hval
  obtain ⟨v0, vs0, d0, ds0, p0, q0, hargs, rfl, rfl, h0, r0⟩ := trodAll_cons hA
  obtain ⟨rfl, rfl, rfl⟩ := trodAll_nil r0
  obtain rfl : args = #[v0] := by cases args; simp_all
  obtain ⟨rfl, rfl⟩ := trodVars_none hV
  obtain ⟨a0, len0, cap0, rfl⟩ := okWide_slice Try.underlying22 (hval 0 22 v0 rfl rfl)
  have k0 := h0
  have lt0 : ∀ x ∈ p0, x.block < W.heap.size := by obtain ⟨m, hm⟩ := k0; exact DataW.trod_lt m _ _ _ hm
  obtain ⟨bs, rfl, b1, b2, b3⟩ := code_row h0
  clear hA0 hval0
  refine (walk W a0 cap0 bs b1 b2 b3).mono fun e W' ⟨he, bel0⟩ => ?_
  have bel := gb_below bel0
  subst he
  exact ⟨_, rfl, _, _, _, [], _, [], hW', trodAll_mk1 (shut_bool Try.underlying4 _), (trodAll_cons_mk (Below.trod laidOut (by kernel_rfl) (of_decide_eq_true (by kernel_rfl)) k0 bel lt0) trodAll_mk0), rfl, bel.frame _, fun h => by cases h⟩
set_option maxRecDepth 100000 in
theorem over : Rows.fnMovedKeysHalfRow.holds Try.pinned (OpenSpec.ofChange Rows.fnMovedKeysHalfSpec) :=
  OpenClaim.holds_of_wide 7 Try.f7 rfl rfl rfl rfl rfl rfl rfl ⟨rfl, rfl, rfl, rfl, rfl⟩ rfl rfl rfl rfl rfl (by kernel_rfl) Try.func7 (by kernel_rfl)
    (of_decide_eq_true (by kernel_rfl)) (by unfold Func.isWrapper; first | (rw [if_pos (by decide +kernel)]; kernel_rfl) | (rw [if_neg (by decide +kernel)]; exact ⟨rfl, rfl⟩))
    (fun os started H enc _ => lifted os started H enc)
theorem proved : Rows.FnMovedKeysHalfSaid := over
end fnMovedKeysHalf
end Go.Proofs.Ythohidhhhknnaaa
