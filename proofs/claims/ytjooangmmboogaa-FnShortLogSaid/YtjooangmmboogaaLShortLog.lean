/- FnShortLog: short logs have each key once: proved for every input, with no condition. -/
import Derived.Test.YtjooangmmboogaaFrame
import Derived.Test.YtjooangmmboogaaLogL
namespace Go.Proofs.Ytjooangmmboogaa
open Go.ChangeShapes Go.WideShapes Go.ChangeAt Go.RowKit
set_option linter.unusedVariables false
theorem key_new {S : List M.Entry} (h : S.Pairwise (fun a b => a.item.key ≠ b.item.key)) {j : Nat} (hj : j < S.length) : S[j].item.key ∉ (S.take j).map (fun e => e.item.key) := by
  intro hm
  obtain ⟨x, hx, he⟩ := List.mem_map.1 hm
  obtain ⟨i, hi, rfl⟩ := List.mem_take_iff_getElem.1 hx
  exact List.pairwise_iff_getElem.1 h i j (by omega) hj (by omega) he
theorem key_in {L : List M.Entry} {x : M.Entry} (h : x ∈ L) : x.item.key ∈ (M.short L).map (fun e => e.item.key) := by
  obtain ⟨y, hy, he⟩ := (M.short_keys (L := L) (k := x.item.key)).2 ⟨x, h, rfl⟩
  exact List.mem_map.2 ⟨y, hy, he⟩
namespace fnShortLog
set_option maxRecDepth 100000 in
set_option maxHeartbeats 2000000 in
theorem walk (w : World) (A : Option Addr) (c : Nat) (bs : List Int) (h2 : bs.length ≤ c) (h3 : ∀ x ∈ bs, 0 ≤ x ∧ x ≤ 255) (h4 : Rd w 0 w.heap.size A (bs.map (.int .u8))) :
    Calls Try.prog 3 #[.slice A bs.length c] w fun e w' => e = .returned (.bool true) ∧ w.grownBy w' none := by
  have H2 := Lib.hid h2
  have H3 := Lib.hid h3
  have H4 := Lib.hid h4
  clear h2 h3 h4
  by_cases hb : bs.length ≤ 1048576
  rotate_left
  · have hb' : (1048576 : Int) < bs.length := by omega
    generalize bs.length = L at *
    go_enter Try.func3, Try.ntmps3
    go_wp2
    go_ret
    exact ⟨rfl, gb_refl _ _⟩
  have hb' : (bs.length : Int) ≤ 1048576 := by omega
  obtain ⟨i0, hi0, hz0, hz1, hz2⟩ := info_parts info_int'
  go_enter Try.func3, Try.ntmps3
  go_wp2_with fail
  refine (DrawShortLog_any w A c bs H2.out hb H3.out H4.out).mono ?_
  rintro e W ⟨A1, c1, L, rfl, hc1, hd, hg⟩
  have D := Lib.hid hd
  have G := Lib.hid hg
  clear hd hg
  go_wp2_with fail
  refine (sl_impl D.out hc1).mono ?_
  rintro e W ⟨A2, c2, rfl, hc2, hd, hg⟩
  replace D := Lib.hid (D.out.on hg)
  replace G := Lib.hid (gb_trans G.out hg)
  have E := Lib.hid hd
  clear hg hd
  go_wp2_with fail
  refine (sl_spec D.out).mono ?_
  rintro e W ⟨A3, c3, rfl, hc3, hd, hg⟩
  replace D := Lib.hid (D.out.on hg)
  replace E := Lib.hid (E.out.on hg)
  replace G := Lib.hid (gb_trans G.out hg)
  have F := Lib.hid hd
  clear hg hd
  go_wp2_with fail
  refine (eqe_same E.out F.out).mono ?_
  rintro e W ⟨rfl, hg⟩
  replace D := Lib.hid (D.out.on hg)
  replace E := Lib.hid (E.out.on hg)
  replace G := Lib.hid (gb_trans G.out hg)
  clear hg F
  go_wp2_with fail
  refine (ValidLog_impl D.out).mono ?_
  rintro e W ⟨rfl, hg⟩
  replace D := Lib.hid (D.out.on hg)
  replace E := Lib.hid (E.out.on hg)
  replace G := Lib.hid (gb_trans G.out hg)
  clear hg
  cases hv : M.validLog L
  · clear hv
    go_wp2_with fail
    refine (sl_spec D.out).mono ?_
    rintro e W ⟨A4, c4, rfl, hc4, hd, hg⟩
    replace D := Lib.hid (D.out.on hg)
    replace E := Lib.hid (E.out.on hg)
    replace G := Lib.hid (gb_trans G.out hg)
    have F := Lib.hid hd
    clear hg hd
    go_wp2_with fail
    refine (eqe_same E.out F.out).mono ?_
    rintro e W ⟨rfl, hg⟩
    replace D := Lib.hid (D.out.on hg)
    replace E := Lib.hid (E.out.on hg)
    replace G := Lib.hid (gb_trans G.out hg)
    clear hg
    go_wp2_with fail
    go_ret
    exact ⟨rfl, G.out⟩
  · have HF : Hid (M.ShortLog L = M.short L) := Lib.hid (by unfold M.ShortLog; rw [hv]; rfl)
    have HVS := Lib.hid (M.valid_sub hv (M.short_sub L))
    have HAP := Lib.hid (M.short_apart L)
    have hl32 : L.length ≤ 32 := by unfold M.validLog at hv; simp at hv; exact hv.2
    have hs32 : (M.short L).length ≤ 32 := Nat.le_trans (M.short_sub L).length_le hl32
    have HSS : Hid (M.ShortLog (M.short L) = M.short L) := Lib.hid (by unfold M.ShortLog; rw [HVS.out, if_pos rfl]; exact M.short_short L)
    have HIN : Hid (∀ x ∈ L, x.item.key ∈ (M.short L).map (fun e => e.item.key)) := Lib.hid fun x hx => key_in hx
    clear hv
    rw [HF.out] at E hc2 ⊢
    generalize M.short L = S at *
    obtain ⟨n, hn⟩ : ∃ n, n = S.length := ⟨_, rfl⟩
    obtain ⟨m, hm⟩ : ∃ m, m = L.length := ⟨_, rfl⟩
    rw [← hn] at hs32 hc2 ⊢
    rw [← hm] at hl32 hc1 ⊢
    have HN := Lib.hid hn
    have HM := Lib.hid hm
    clear hn hm
    obtain ⟨w0, hw0⟩ : ∃ w0 : World, w0 = W := ⟨_, rfl⟩
    subst hw0
    have O1 := Lib.hid (World.ownsRow_made (base := w0.heap.size) (e := 3) (size := 1) w0 #[] 0 (Nat.le_refl _) (by decide) rfl)
    go_wp2_with fail
    go_loopw [5, 6] (fun v i wr => ∃ j : Nat, j ≤ n ∧ i = .int .i64 j ∧ wr.ownsRow w0.heap.size 3 1 v j (((S.take j).map (fun e => e.item.key)).map (.int .i64)) ∧ w0.grownBy wr none) (fun _ i _ => n - (intOf i).toNat)
    case atStart => exact ⟨0, Nat.zero_le _, rfl, by simpa using O1.out, gb_alloc (gb_refl _ _) _⟩
    case round =>
      obtain ⟨j, hj, rfl, hown, hg⟩ := hrel
      have G1 := Lib.hid hg
      have hlm : ((S.take j).map (fun e => e.item.key)).length = j := by rw [List.length_map, List.length_take, ← HN.out]; omega
      have HLM := Lib.hid hlm
      obtain ⟨Av, cv, hvv, hcv, hrv⟩ := OwnInts.rd (k := .i64) (t := 3) (lo := w0.heap.size) (w := wr) (v := u5) (l := (S.take j).map (fun e => e.item.key)) (by unfold OwnInts; rw [hlm]; exact hown)
      rw [hlm] at hvv hcv
      subst hvv
      have O := Lib.hid hown
      have SN := Lib.hid (show SeesN .i64 wr Av ((S.take j).map (fun e => e.item.key)) from ⟨hrv.wide (Nat.zero_le _) (Nat.le_refl _), by rw [hlm]; omega⟩)
      have hszw := hg.size
      clear hg hown hrv hlm O1
      by_cases hlt : j < n
      · have hjl : j < S.length := by rw [← HN.out]; exact hlt
        obtain ⟨b, o, hA, hb1, hb2, hI⟩ := (E.out.on G1.out).1.at_ (List.getElem?_eq_getElem hjl)
        subst hA
        obtain ⟨u, _, d1, _, _, _⟩ := hI
        have HNEW := Lib.hid (decide_eq_false (key_new HAP.out hjl))
        have HTK : Hid ((S.take (j + 1)).map (fun e => e.item.key) = (S.take j).map (fun e => e.item.key) ++ [S[j].item.key]) := Lib.hid (by rw [List.take_succ_eq_append_getElem hjl, List.map_append]; rfl)
        have HC := Lib.hid (isIn_any (n := S[j].item.key) (c := cv) SN.out)
        rw [HNEW.out, HLM.out] at HC
        have kn : (j : Int) < n := by omega
        have k0 : (0 : Int) ≤ j := by omega
        clear HNEW
        generalize S[j].item.key = y at *
        go_wp2_with fail
        refine HC.out.mono ?_
        rintro e w2 ⟨rfl, hg⟩
        have G2 := Lib.hid hg
        have d2 : w2.cell? ⟨b, o + j * 4 + 1, none⟩ = some (.int .i64 y) := hg.cell d1 (by simp)
        have O2 := Lib.hid ((O.out.kept hg (own_ge O.out (by simp))))
        have hs2 := hg.size
        clear hg d1
        go_wp2_with (at_builtin; refine wpList_append_own _ rfl (.tmp 44) (.tmp 51) 28 rfl w0.heap.size 3 i0 (.int .i64 0) 1 8 Try.underlying28 hi0 hz0 hz1 hz2 rfl (by decide) _ j (((S.take j).map (fun e => e.item.key)).map (.int .i64)) rfl (O2.out.alloc _) ⟨w2.heap.size, 0, none⟩ 1 1 [.int .i64 y] rfl rfl one_cell_new (one_cells rfl) (by unfold maxLen; omega) (by omega) (by simp; omega) ?_; intro v' w4 hown' hgrow _; have T1 := Lib.hid hown'; have T2 := Lib.hid hgrow; clear hown' hgrow)
        go_roundw
        case rel =>
          refine ⟨j + 1, by omega, by go_num, ?_, gb_new (gb_alloc (gb_trans G1.out G2.out) (.cells #[.int .i64 y] 3)) T2.out (fun b hb => .inl (O.out.lt b hb).1)⟩
          rw [HTK.out, List.map_append]
          exact T1.out
        case measure => simp [intOf]; omega
      · obtain rfl : j = n := by omega
        have HALL : Hid (S.take j = S) := Lib.hid (List.take_of_length_le (by rw [← HN.out]; exact Nat.le_refl _))
        rw [HALL.out] at SN HLM
        replace D := Lib.hid (D.out.on G1.out)
        replace E := Lib.hid (E.out.on G1.out)
        replace G := Lib.hid (gb_trans G.out G1.out)
        clear O G1
        obtain ⟨w8, hw8⟩ : ∃ w8 : World, w8 = wr := ⟨_, rfl⟩
        subst hw8
        go_wp2_with fail
        go_loopw [7] (fun i wr => ∃ j : Nat, j ≤ m ∧ i = .int .i64 j ∧ w8.grownBy wr none) (fun i _ => m - (intOf i).toNat)
        case atStart => exact ⟨0, Nat.zero_le _, rfl, gb_refl _ _⟩
        case round =>
          obtain ⟨i, hi, rfl, hg⟩ := hrel
          have G1 := Lib.hid hg
          clear hg
          by_cases him : i < m
          · have hil : i < L.length := by rw [← HM.out]; exact him
            obtain ⟨b, o, hA, hb1, hb2, hI⟩ := (D.out.on G1.out).1.at_ (List.getElem?_eq_getElem hil)
            subst hA
            obtain ⟨u, _, d1, _, _, _⟩ := hI
            have HC := Lib.hid (isIn_any (n := L[i].item.key) (c := cv) (SN.out.on G1.out))
            rw [decide_eq_true (HIN.out _ (List.getElem_mem hil)), HLM.out] at HC
            have kn : (i : Int) < m := by omega
            have k0 : (0 : Int) ≤ i := by omega
            generalize L[i].item.key = y at *
            go_wp2_with fail
            refine HC.out.mono ?_
            rintro e w2 ⟨rfl, hg⟩
            have G2 := Lib.hid (gb_trans G1.out hg)
            clear hg
            go_wp2_with fail
            go_roundw
            case rel => exact ⟨i + 1, by omega, by go_num, G2.out⟩
            case measure => simp [intOf]; omega
          · obtain rfl : i = m := by omega
            replace E := Lib.hid (E.out.on G1.out)
            replace G := Lib.hid (gb_trans G.out G1.out)
            have HC := Lib.hid (ValidLog_impl (c := c2) E.out)
            rw [HVS.out, ← HN.out] at HC
            go_wp2_with fail
            refine HC.out.mono ?_
            rintro e W ⟨rfl, hg⟩
            replace E := Lib.hid (E.out.on hg)
            replace G := Lib.hid (gb_trans G.out hg)
            clear hg HC
            have HC := Lib.hid (sl_impl (c := c2) E.out (by rw [← HN.out]; exact hc2))
            rw [HSS.out, ← HN.out] at HC
            go_wp2_with fail
            refine HC.out.mono ?_
            rintro e W ⟨A6, c6, rfl, hc6, hd, hg⟩
            replace E := Lib.hid (E.out.on hg)
            replace G := Lib.hid (gb_trans G.out hg)
            have F := Lib.hid hd
            clear hg hd HC
            have HC := Lib.hid (eqe_same (c := c6) (d := c2) F.out E.out)
            rw [← HN.out] at HC
            go_wp2_with fail
            rw [← HN.out]
            refine HC.out.mono ?_
            rintro e W ⟨rfl, hg⟩
            replace G := Lib.hid (gb_trans G.out hg)
            clear hg
            go_wp2_with fail
            go_ret
            exact ⟨rfl, G.out⟩
end fnShortLog
/-! the row's step -/
namespace fnShortLog
set_option maxRecDepth 100000 in
theorem lifted (os : Os) (started : os.Started) (H : Type) (enc : TypeId × Value → H) :
    ReturnsInHanded {} Try.checked os 3 .any (Rows.fnShortLogSpec.pre6 enc Try.prog Try.f3 Rows.fnShortLogRow.domain false) (Rows.fnShortLogSpec.post enc Try.prog Try.f3 false true false false) := by
  refine returnsInHanded_of_change (C := Try.checked) own started (by kernel_rfl) Try.func3
    (ChangeSpec.witness6 (enc := enc) (C := Try.checked) false ⟨#[], #[.slice none 0 0], []⟩ 8 (by kernel_rfl) (by kernel_rfl) (by kernel_rfl) (by kernel_rfl)) ?_
  intro W base args ds gs before hval0 hW hcnd _
  have hval : ∀ (j : Nat) t v, Try.f3.params[j]? = some t → args[j]? = some v → Value.okWide Try.prog W .any base t v := hval0
  have hW' := hW
  obtain ⟨p, q, hA0, hV, rfl, hfz, hnd⟩ := hW
  have hA : DataW.TrodAll enc Try.prog W 0 (fun _ => true) true Try.f3.params.toList args.toList ds p := hA0
  rw [Try.params3] at hA hval
  obtain ⟨v0, vs0, d0, ds0, p0, q0, hargs, rfl, rfl, h0, r0⟩ := trodAll_cons hA
  obtain ⟨rfl, rfl, rfl⟩ := trodAll_nil r0
  obtain rfl : args = #[v0] := by cases args; simp_all
  obtain ⟨rfl, rfl⟩ := trodVars_none hV
  obtain ⟨a0, len0, cap0, rfl⟩ := okWide_slice Try.underlying22 (hval 0 22 v0 rfl rfl)
  have k0 := h0
  have lt0 : ∀ x ∈ p0, x.block < W.heap.size := by obtain ⟨m, hm⟩ := k0; exact DataW.trod_lt m _ _ _ hm
  obtain ⟨bs, rfl, b1, b2, b3⟩ := code_row h0
  clear hA0 hval0
  refine (walk W a0 cap0 bs b1 b2 b3).mono fun e W' ⟨he, bel0⟩ => ?_
  have bel := gb_below bel0
  subst he
  exact ⟨_, rfl, _, _, _, [], _, [], hW', trodAll_mk1 (shut_bool Try.underlying4 _), (trodAll_cons_mk (Below.trod laidOut (by kernel_rfl) (of_decide_eq_true (by kernel_rfl)) k0 bel lt0) trodAll_mk0), rfl, bel.frame _, fun h => by cases h⟩
set_option maxRecDepth 100000 in
theorem over : Rows.fnShortLogRow.holds Try.pinned (OpenSpec.ofChange Rows.fnShortLogSpec) :=
  OpenClaim.holds_of_wide 3 Try.f3 rfl rfl rfl rfl rfl rfl rfl ⟨rfl, rfl, rfl, rfl, rfl⟩ rfl rfl rfl rfl rfl (by kernel_rfl) Try.func3 (by kernel_rfl)
    (of_decide_eq_true (by kernel_rfl)) (by unfold Func.isWrapper; first | (rw [if_pos (by decide +kernel)]; kernel_rfl) | (rw [if_neg (by decide +kernel)]; exact ⟨rfl, rfl⟩))
    (fun os started H enc _ => lifted os started H enc)
theorem proved : Rows.FnShortLogSaid := over
end fnShortLog
end Go.Proofs.Ytjooangmmboogaa
