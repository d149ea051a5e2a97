/- The program's RunSession returns what the reference's returns. The statement Rows.FnExactRunSessionCardSaid is proved for every input, with no condition of our own; it is a tied card: the library's tables and errors that the row lists are tied by the given tie. -/
import Derived.Test.YtibbpbbgmgdpdaaGreatDoorCard
import Derived.Test.YtibbpbbgmgdpdaaGreatDoorSesN
namespace Go.Proofs.YtibbpbbgmgdpdaaGreatDoor
open Go.ChangeShapes Go.WideShapes Go.ChangeAt Go.RowKit Go.Deep
set_option linter.unusedVariables false
set_option linter.unusedSimpArgs false
set_option maxRecDepth 100000

theorem szT_any (w : World) (A : Option Addr) (c : Nat) (ls : List (List UInt8)) (hn : ls.length ≤ maxLen) (hx : ∀ x ∈ ls, x.length ≤ maxLen) (D : SeesT w A ls) :
    Calls Tryz.prog 12 #[.slice A ls.length c, .int .i64 1048576] w fun e w' => ∃ r, e = .returned (.int .i64 r) ∧ w = w' ∧ (0 ≤ r → ls.length ≤ 1048576 ∧ ∀ x ∈ ls, x.length ≤ 1048576) := by
  obtain ⟨n, hn'⟩ : ∃ n, n = ls.length := ⟨_, rfl⟩
  rw [← hn'] at hn ⊢
  have HN := Lib.hid hn'
  have HX := Lib.hid hx
  have HD := Lib.hid D
  unfold maxLen at hn
  clear hn' hx D
  by_cases hs : (n : Int) ≤ 1048576
  · have t0 : ¬ (1048576 : Int) - n < 0 := by omega
    have w0 : IntKind.i64.wrap ((1048576 : Int) - n) = 1048576 - n := IntWalk.i64_in _ (by omega)
    go_enter Tryz.func12, Tryz.ntmps12
    go_wp2_with fail
    go_loopw [1, 5] (fun lv iv wr => ∃ (k : Nat) (z : Int), k ≤ n ∧ lv = .int .i64 z ∧ iv = .int .i64 k ∧ 0 ≤ z ∧ z ≤ 1048576 ∧ Hid (∀ x ∈ ls.take k, x.length ≤ 1048576) ∧ wr = w) (fun _ i _ => n - (intOf i).toNat)
    case atStart => exact ⟨0, 1048576 - n, Nat.zero_le _, rfl, rfl, by omega, by omega, Lib.hid (by simp), rfl⟩
    case round =>
      obtain ⟨k, z, hk, rfl, rfl, hz0, hz1, HP, rfl⟩ := hrel
      by_cases hlt : k < n
      · have hkl : k < ls.length := by rw [← HN.out]; exact hlt
        obtain ⟨b, o, rfl, hb, hc⟩ := HD.out.at_ hkl
        have hxl := HX.out _ (List.getElem_mem hkl)
        have HT : Hid (ls.take (k + 1) = ls.take k ++ [ls[k]]) := Lib.hid (List.take_succ_eq_append_getElem hkl)
        generalize ls[k] = x at *
        have hsz := tb_size x
        have kn : (k : Int) < n := by omega
        have k0 : (0 : Int) ≤ k := by omega
        unfold maxLen at hxl
        obtain ⟨m, hm⟩ : ∃ m, m = x.length := ⟨_, rfl⟩
        rw [← hm] at hsz hxl
        have HM := Lib.hid hm
        have w1 : IntKind.i64.wrap (z - (m : Int)) = z - m := IntWalk.i64_in _ (by omega)
        clear hm
        generalize tb x = X at *
        by_cases hneg : z - (m : Int) < 0
        · go_wp2_with fail
          go_ret
          exact ⟨-1, rfl, rfl, fun h => by omega⟩
        · go_wp2_with fail
          go_roundw
          case rel =>
            refine ⟨k + 1, z - m, by omega, rfl, by go_num, by omega, by omega, Lib.hid fun y hy => ?_, trivial⟩
            rw [HT.out, List.mem_append, List.mem_singleton] at hy
            rcases hy with hy | rfl
            · exact HP.out y hy
            · rw [← HM.out]; omega
          case measure => simp [intOf]; omega
      · obtain rfl : k = n := by omega
        go_wp2_with fail
        go_ret
        refine ⟨z, rfl, rfl, fun _ => ⟨by omega, ?_⟩⟩
        have h := HP.out
        rw [HN.out, List.take_of_length_le (Nat.le_refl _)] at h
        exact h
  · have t0 : (1048576 : Int) - n < 0 := by omega
    have w0 : IntKind.i64.wrap ((1048576 : Int) - n) = 1048576 - n := IntWalk.i64_in _ (by omega)
    go_enter Tryz.func12, Tryz.ntmps12
    go_wp2_with fail
    go_ret
    exact ⟨-1, rfl, rfl, fun h => by omega⟩
set_option maxHeartbeats 600000 in
theorem toT_any {w : World} {A : Option Addr} {c : Nat} {ls : List (List UInt8)} (hn : ls.length ≤ 1048576) (D : SeesT w A ls) :
    Calls Tryz.prog 13 #[.slice A ls.length c] w (GotT w ls) := by
  obtain ⟨n, hn'⟩ : ∃ n, n = ls.length := ⟨_, rfl⟩
  have HN := Lib.hid hn'
  have HD := Lib.hid D
  rw [← hn'] at hn ⊢
  clear hn' D
  have hmk := run_make_row' (P := Tryz.prog) 23 9 (.string ByteArray.empty) 16 Tryz.underlying23 info_string rfl .i64 .i64 n (by omega) (by omega)
  go_enter Tryz.func13, Tryz.ntmps13
  go_wp2_with fail
  clear hmk
  go_loopw [4] (fun iv wr => ∃ k : Nat, k ≤ n ∧ iv = .int .i64 k ∧ Row wr w.heap.size 9 ((ls.take k).map (fun l => .string (tb l)) ++ List.replicate (n - k) (.string ByteArray.empty)) ∧ w.grownBy wr none) (fun i _ => n - (intOf i).toNat)
  case atStart => exact ⟨0, Nat.zero_le _, rfl, Row.new w _ (by first | (rw [← Lib.cellsOf_nil]; simp [Lib.cellsOf]) | simp [madeCells]), gb_alloc (gb_refl _ _) _⟩
  case round =>
    obtain ⟨k, hk, rfl, hrow, hg⟩ := hrel
    have HR := Lib.hid hrow
    have G := Lib.hid hg
    clear hrow hg
    have k0 : (0 : Int) ≤ k := by omega
    by_cases hlt : k < n
    · have hkl : k < ls.length := by rw [← HN.out]; exact hlt
      obtain ⟨b, o, rfl, hb, hc⟩ := (HD.out.on G.out).at_ hkl
      have hlen : ((ls.take k).map fun l => Value.string (tb l)).length = k := by rw [List.length_map, List.length_take]; omega
      have hcell : wr.cell? ⟨w.heap.size, k, none⟩ = some (.string ByteArray.empty) := by
        rw [HR.out.cell, List.getElem?_append_right (by omega), hlen, Nat.sub_self, List.getElem?_replicate, if_pos (by omega)]
      have hf := HR.out.frozen k
      have kn : (k : Int) < n := by omega
      have HS : Hid (Row (wr.setCell ⟨w.heap.size, k, none⟩ (.string (tb ls[k]))) w.heap.size 9 ((ls.take (k + 1)).map (fun l => .string (tb l)) ++ List.replicate (n - (k + 1)) (.string ByteArray.empty))) := Lib.hid (by
        have h := HR.out.set_ k (.string (tb ls[k]))
        rw [show n - k = (n - (k + 1)) + 1 by omega, List.replicate_succ, List.set_append_right _ _ (by omega), hlen, Nat.sub_self, List.set_cons_zero] at h
        rw [List.take_succ_eq_append_getElem hkl, List.map_append, List.append_assoc]
        exact h)
      clear hlen
      generalize ls[k] = x at *
      generalize tb x = X at *
      go_wp2_with fail
      go_roundw
      case rel => exact ⟨k + 1, by omega, by go_num, HS.out, gb_setCell G.out (.inl (Nat.le_refl _)) _⟩
      case measure => simp [intOf]; omega
    · obtain rfl : k = n := by omega
      have HO : Hid (OwnT wr w.heap.size (.slice (some ⟨w.heap.size, 0, none⟩) k k) ls) := Lib.hid (by
        have h := HR.out
        rw [Nat.sub_self, List.replicate_zero, List.append_nil, HN.out, List.take_of_length_le (Nat.le_refl _)] at h
        have h2 := h.owns (base := w.heap.size) (n := k) (cap := k) (size := 1) (Nat.le_refl _) (Nat.le_refl _) (by unfold maxLen; omega) (by simp [HN.out])
        rw [List.take_of_length_le (by simp [HN.out])] at h2
        unfold OwnT
        rw [← HN.out]
        exact h2)
      go_wp2_with fail
      go_ret
      exact OwnT.got HO.out G.out
theorem eqT_same {w : World} {A B : Option Addr} {c d : Nat} {ls : List (List UInt8)} (hn : ls.length ≤ 1048576) (D : SeesT w A ls) (E : SeesT w B ls) :
    Calls Tryz.prog 14 #[.slice A ls.length c, .slice B ls.length d] w fun e w' => e = .returned (.bool true) ∧ w.grownBy w' none := by
  obtain ⟨n, hn'⟩ : ∃ n, n = ls.length := ⟨_, rfl⟩
  have HN := Lib.hid hn'
  have HD := Lib.hid D
  have HE := Lib.hid E
  rw [← hn'] at hn ⊢
  clear hn' D E
  go_enter Tryz.func14, Tryz.ntmps14
  go_wp2_with fail
  go_loopw [5] (fun iv wr => ∃ k : Nat, k ≤ n ∧ iv = .int .i64 k ∧ w.grownBy wr none) (fun i _ => n - (intOf i).toNat)
  case atStart => exact ⟨0, Nat.zero_le _, rfl, gb_refl _ _⟩
  case round =>
    obtain ⟨k, hk, rfl, hg⟩ := hrel
    have G := Lib.hid hg
    clear hg
    have k0 : (0 : Int) ≤ k := by omega
    by_cases hlt : k < n
    · have hkl : k < ls.length := by rw [← HN.out]; exact hlt
      obtain ⟨b, o, rfl, _, c0⟩ := (HD.out.on G.out).at_ hkl
      obtain ⟨b', o', rfl, _, c1⟩ := (HE.out.on G.out).at_ hkl
      have l0 : ∀ x' : Later wr, x'.w.cell? ⟨b, o + k, none⟩ = some (.string (tb ls[k])) := fun x' => x'.cell c0
      have l1 : ∀ x' : Later wr, x'.w.cell? ⟨b', o' + k, none⟩ = some (.string (tb ls[k])) := fun x' => x'.cell c1
      have kn : (k : Int) < n := by omega
      clear c0 c1
      generalize ls[k] = x at *
      generalize tb x = X at *
      go_wp2_with fail
      refine wp_region_later (by kernel_rfl) (by kernel_rfl) ?_
      repeat (go_big_quiet_step ((fail)))
      refine wpQuiet_nil ?_
      rintro _ ⟨xv, rfl⟩
      have GX := Lib.hid (gb_trans G.out xv.h)
      go_wp2_with fail
      go_roundw
      case rel => exact ⟨k + 1, by omega, by go_num, GX.out⟩
      case measure => simp [intOf]; omega
    · obtain rfl : k = n := by omega
      go_wp2_with fail
      go_ret
      exact ⟨rfl, G.out⟩
namespace fnExactRunSession
theorem walk (W : World) (a0 : Option Addr) (cap0 : Nat) (ls : List (List UInt8)) (b1 : ls.length ≤ cap0) (b2 : ls.length ≤ maxLen) (b3 : ∀ y ∈ ls, y.length ≤ maxLen) (b4 : SeesT W a0 ls) (hlib : LibOk W) :
    Calls Tryz.prog 6 #[.slice a0 ls.length cap0] W fun e w' => e = .returned (.bool true) ∧ W.grownBy w' none := by
  have HSZ := Lib.hid (szT_any W a0 cap0 ls b2 b3 b4)
  have HD := Lib.hid b4
  have HLIB := Lib.hid hlib
  clear b3 b4 hlib
  go_enter Tryz.func6, Tryz.ntmps6
  go_wp2_with fail
  refine HSZ.out.mono ?_
  rintro e w0 ⟨r, rfl, rfl, hr⟩
  by_cases hneg : r < 0
  · clear hr
    go_wp2_with fail
    go_ret
    exact ⟨rfl, gb_refl _ _⟩
  · obtain ⟨hn, hxs⟩ := hr (by omega)
    have HXS := Lib.hid hxs
    clear hr hxs
    go_wp2_with fail
    refine (toT_any (c := cap0) hn HD.out).mono ?_
    rintro e w1 ⟨A1, c1, rfl, hc1, ho1, hg⟩
    have G1 := Lib.hid hg
    have D1 := Lib.hid ho1.sees
    clear hg ho1 hc1
    go_wp2_with fail
    refine (RunSession_spec (c := c1) D1.out HXS.out (by omega)).mono ?_
    rintro e w2 ⟨rfl, hg⟩
    have G2 := Lib.hid (gb_trans G1.out hg)
    clear hg
    go_wp2_with fail
    refine (toT_any (c := cap0) hn (HD.out.on G2.out)).mono ?_
    rintro e w3 ⟨A3, c3, rfl, hc3, ho3, hg⟩
    have G3 := Lib.hid (gb_trans G2.out hg)
    have D3 := Lib.hid ho3.sees
    clear hg ho3
    go_wp2_with fail
    refine (RunSession_impl (c := c3) (HLIB.out.on G3.out) D3.out HXS.out hc3).mono ?_
    rintro e w4 ⟨rfl, hg⟩
    have G4 := Lib.hid (gb_trans G3.out hg)
    have D4 := Lib.hid (D3.out.on hg)
    clear hg hc3
    generalize tb (M.session ls) = R at *
    go_wp2_with fail
    refine (toT_any (c := cap0) hn (HD.out.on G4.out)).mono ?_
    rintro e w5 ⟨A5, c5, rfl, hc5, ho5, hg⟩
    have G5 := Lib.hid (gb_trans G4.out hg)
    have D5 := Lib.hid ho5.sees
    have D6 := Lib.hid (D4.out.on hg)
    clear hg hc5 ho5
    go_wp2_with fail
    refine (eqT_same (c := c3) (d := c5) hn D6.out D5.out).mono ?_
    rintro e w6 ⟨rfl, hg⟩
    have G6 := Lib.hid (gb_trans G5.out hg)
    clear hg
    go_wp2_with fail
    go_ret
    exact ⟨rfl, G6.out⟩
end fnExactRunSession
/-! the row's step, and the card -/
namespace fnExactRunSession
set_option maxRecDepth 100000 in
theorem lifted (os : Os) (started : os.Started) (H : Type) (enc : TypeId × Value → H) :
    ReturnsInHanded {} Tryz.checked os 6 .any (fun w args => (Rows.fnExactRunSessionSpec.pre enc Tryz.prog Tryz.f6 [] false w args ∧ laidMetH Tryz.prog Rows.fnExactRunSessionRow.laid w) ∧ sizedMet enc Tryz.prog Tryz.f6 (OpenSpec.ofChange Rows.fnExactRunSessionSpec) false w args)
      (Rows.fnExactRunSessionSpec.post enc Tryz.prog Tryz.f6 false true false false) := by
  refine returns_laid_shaped (C := Tryz.checked) (X := fun w _ => laidMetH Tryz.prog Rows.fnExactRunSessionRow.laid w) (fun _ _ _ hh h => h.of_heap hh) own started (by kernel_rfl) Tryz.func6
    (ChangeSpec.witness_shaped (enc := enc) (C := Tryz.checked) (os := os) (X := fun w _ => laidMetH Tryz.prog Rows.fnExactRunSessionRow.laid w) false (World.laidAll Tryz.prog os Rows.fnExactRunSessionRow.laid) #[.slice none 0 0] 8 (World.laidAll_os _ _ _)
      (World.shaped_of_ZipB (by kernel_rfl) (by kernel_rfl)) (by kernel_rfl) (by kernel_rfl) (by kernel_rfl)
      (by rw [MakeChecks.laidMetH_plain _ _ _ (by kernel_rfl)]; exact laidMet_laidAll _ (by kernel_rfl) (by kernel_rfl))) ?_
  intro W base args ds gs before hval0 hW hL hsh
  have hval : ∀ (j : Nat) t v, Tryz.f6.params[j]? = some t → args[j]? = some v → Value.okWide Tryz.prog W .any base t v := hval0
  have hW' := hW
  obtain ⟨p, q, hA0, hV, rfl, hfz, hnd⟩ := hW
  have hA : DataW.TrodAll enc Tryz.prog W 0 (fun _ => true) true Tryz.f6.params.toList args.toList ds p := hA0
  rw [Tryz.params6] at hA hval
  obtain ⟨v0, vs0, d0, ds0, p0, q0, hargs, rfl, rfl, h0, r0⟩ := trodAll_cons hA
  obtain ⟨rfl, rfl, rfl⟩ := trodAll_nil r0
  obtain rfl : args = #[v0] := by cases args; simp_all
  obtain ⟨rfl, rfl⟩ := trodVars_none hV
  obtain ⟨a0, len0, cap0, rfl⟩ := okWide_slice Tryz.underlying23 (hval 0 23 v0 rfl rfl)
  have k0 := h0
  have lt0 : ∀ x ∈ p0, x.block < W.heap.size := by obtain ⟨m, hm⟩ := k0; exact DataW.trod_lt m _ _ _ hm
  obtain ⟨ls, rfl, b1, b2, b3, b4⟩ := strings_row h0
  rw [MakeChecks.laidMetH_plain _ _ _ (by kernel_rfl)] at hL
  have hlib : LibOk W := libOk_of hL hsh
  clear hA0 hval0
  refine (walk W a0 cap0 ls b1 b2 b3 b4 hlib).mono fun e W' ⟨he, bel0⟩ => ?_
  have bel := gb_below bel0
  subst he
  exact ⟨_, rfl, _, _, _, [], _, [], hW', trodAll_mk1 (shut_bool Tryz.underlying4 _), (trodAll_cons_mk (Below.trod laidOut (by kernel_rfl) (of_decide_eq_true (by kernel_rfl)) k0 bel lt0) trodAll_mk0), rfl, bel.frame _, fun h => by cases h⟩
set_option maxRecDepth 100000 in
theorem over : Rows.fnExactRunSessionRow.holds Tryz.pinned (OpenSpec.ofChange Rows.fnExactRunSessionSpec) :=
  OpenClaim.holds_of_wide 6 Tryz.f6 rfl rfl rfl rfl rfl rfl rfl ⟨rfl, rfl, rfl, rfl, rfl⟩ rfl rfl rfl rfl rfl (by kernel_rfl) Tryz.func6 (by kernel_rfl)
    (of_decide_eq_true (by kernel_rfl)) (by unfold Func.isWrapper; first | (rw [if_pos (by decide +kernel)]; kernel_rfl) | (rw [if_neg (by decide +kernel)]; exact ⟨rfl, rfl⟩))
    (fun os started H enc _ => lifted os started H enc)
set_option maxRecDepth 100000 in
theorem proved : Rows.FnExactRunSessionCardSaid :=
  Claim7.holds_tied_plain_at .later [] [.data, .data, .data, .data, .sentinel, .sentinel, .pinned] true (true, "ec18b42cbbaa372bb440bb6ac51bb759f5cce2bc3979719b94ad816ce137e71c") true
    over (fun _ h => by cases h) (by kernel_rfl) (fun _ h => by cases h) fnExactRunSession_row_tie rfl ⟨rfl, rfl⟩ (by kernel_rfl) rfl
    (fun f fn hf hfn => by
      obtain rfl : f = 6 := Option.some.inj ((show Tryz.prog.funcNamed Rows.fnExactRunSessionRow.func = some 6 by kernel_rfl).symm.trans hf) |>.symm
      obtain rfl : fn = Tryz.f6 := (Option.some.inj (Tryz.func6.symm.trans hfn)).symm
      exact ⟨by kernel_rfl, fun j t ht => by
        rw [Tryz.params6] at ht
        have hm : t ∈ [23] := by simpa using Array.mem_of_getElem? ht
        have hall : ([23].all fun u => !Tryz.prog.wantsStandIn u) = true := by kernel_rfl
        exact (show Tryz.prog.wantsStandIn t = false by simpa using List.all_eq_true.1 hall t hm)⟩)
    (by kernel_rfl)
end fnExactRunSession
end Go.Proofs.YtibbpbbgmgdpdaaGreatDoor
