/- The walks of histories with an entry more. -/
import Derived.Test.YthoakomccjjhbaaHisB
namespace Go.Proofs.Ythoakomccjjhbaa
open Go.RowKit
set_option linter.unusedVariables false
set_option linter.unusedSimpArgs false
set_option maxRecDepth 100000

theorem add_boxes (w : World) (x y q k u t : Value) : Row (((w.alloc (.cells #[x, y] 26)).alloc (.cells #[q, k, u, t] 30)).alloc (.cells #[.slice none 0 0, .slice none 0 0] 26)) w.heap.size 26 [x, y] ∧
    Row (((w.alloc (.cells #[x, y] 26)).alloc (.cells #[q, k, u, t] 30)).alloc (.cells #[.slice none 0 0, .slice none 0 0] 26)) (w.heap.size + 1) 30 [q, k, u, t] ∧
    Row (((w.alloc (.cells #[x, y] 26)).alloc (.cells #[q, k, u, t] 30)).alloc (.cells #[.slice none 0 0, .slice none 0 0] 26)) (w.heap.size + 1 + 1) 26 [.slice none 0 0, .slice none 0 0] ∧
    w.grownBy (((w.alloc (.cells #[x, y] 26)).alloc (.cells #[q, k, u, t] 30)).alloc (.cells #[.slice none 0 0, .slice none 0 0] 26)) none := by
  refine ⟨((Row.new w _ rfl).alloc _).alloc _, ?_, ?_, gb_alloc (gb_alloc (gb_alloc (gb_refl _ _) _) _) _⟩
  · have := Row.new (w.alloc (.cells #[x, y] 26)) 30 (ca := #[q, k, u, t]) rfl
    simp only [World.size_alloc] at this
    exact this.alloc _
  · have := Row.new ((w.alloc (.cells #[x, y] 26)).alloc (.cells #[q, k, u, t] 30)) 26 (ca := #[.slice none 0 0, .slice none 0 0]) rfl
    simpa using this
theorem add_none1 {h : M.Hist} {e : M.Entry} {t : Int} (hv : M.validHist h = false) : M.AddEntry h e t = none := by
  unfold M.AddEntry; rw [hv]; simp
theorem add_none2 {h : M.Hist} {e : M.Entry} {t : Int} (hv : M.validHist (M.addH h e t) = false) : M.AddEntry h e t = none := by
  unfold M.AddEntry; rw [hv]; simp
theorem add_none3 {h : M.Hist} {e : M.Entry} {t : Int} (hv : M.validEntry e = false) : M.AddEntry h e t = none := by
  refine add_none2 ?_
  cases hh : M.validHist (M.addH h e t)
  · rfl
  · have := (M.add_valid_of hh).1
    rw [hv] at this; cases this
theorem add_some {h : M.Hist} {e : M.Entry} {t : Int} (h1 : M.validHist h = true) (h2 : M.validHist (M.addH h e t) = true) : M.AddEntry h e t = some (M.addH h e t) := by
  unfold M.AddEntry; rw [if_pos ⟨h1, h2⟩]
theorem take_whole {h : M.Hist} (hv : M.validHist h = true) : M.takeH h (M.upTo h.times 1000) = h := by
  obtain ⟨h1, h2, h3, h4⟩ := M.validHist_iff.1 hv
  rw [M.upTo_all h3 (Int.le_refl _)]
  exact M.take_all _ _ (by omega) (Nat.le_refl _)
theorem take_whole' {h : M.Hist} (hv : M.validHist h = true) : M.takeH h h.log.length = h := by
  obtain ⟨h1, h2, h3, h4⟩ := M.validHist_iff.1 hv
  exact M.take_all _ _ (Nat.le_refl _) (by omega)
theorem hisOpt_own {w w' : World} {r : Option M.Hist} {h : M.Hist} {A B : Option Addr} {c d m n : Nat} (hr : r = some h) (hm : h.log.length = m) (hn : h.times.length = n) (ho : OwnH w' w.heap.size (.slice A m c) (.slice B n d) h.log h.times) (hg : w.grownBy w' none) :
    HisOpt w r (.returned (.tuple #[.agg #[.slice A m c, .slice B n d], .bool true])) w' := by
  subst hm hn
  refine hisOpt_some hr ?_ ?_ ho hg
  · obtain ⟨A9, c9, e9, hc9, _⟩ := ho.entries.rd
    injection e9 with x1 x2 x3
    omega
  · obtain ⟨A9, c9, e9, hc9, _⟩ := ho.times.rd
    injection e9 with x1 x2 x3
    omega
set_option maxHeartbeats 4000000 in
theorem AddEntry_impl {w : World} {A B : Option Addr} {c d : Nat} {h : M.Hist} {y : M.Entry} {ue : Value} {t : Int} (D : SeesH w A B h) (hd : h.times.length ≤ d) (hy : RdInts .i64 w 0 w.heap.size ue y.item.pos) (hyl : y.item.pos.length ≤ 1048576) :
    Calls Try.prog 12 #[.agg #[.slice A h.log.length c, .slice B h.times.length d], .agg #[.int .i64 y.kind, .int .i64 y.item.key, ue, .int .i64 y.item.tags], .int .i64 t] w (HisOpt w (M.AddEntry h y t)) := by
  obtain ⟨i0, hi0, hz0, hz1, hz2⟩ := info_parts info_entry'
  obtain ⟨j0, hj0, hy0, hy1, hy2⟩ := info_parts info_int'
  obtain ⟨Au, cu, rfl, hcu, hru⟩ := hy
  have HU := Lib.hid (show RdInts .i64 w 0 w.heap.size (.slice Au y.item.pos.length cu) y.item.pos from ⟨_, _, rfl, hcu, hru⟩)
  clear hcu hru
  obtain ⟨rb0, rb1, rb2, gb0⟩ := add_boxes w (.slice A h.log.length c) (.slice B h.times.length d) (.int .i64 y.kind) (.int .i64 y.item.key) (.slice Au y.item.pos.length cu) (.int .i64 y.item.tags)
  have RB0 := Lib.hid rb0
  have RB1 := Lib.hid rb1
  have RB2 := Lib.hid rb2
  have GB := Lib.hid gb0
  clear rb0 rb1 rb2 gb0
  have HV : Hid (∀ W, w.grownBy W none → Calls Try.prog 48 #[.agg #[.slice A h.log.length c, .slice B h.times.length d]] W fun e w' => e = .returned (.bool (M.validHist h)) ∧ W.grownBy w' none) := Lib.hid fun W hW => isHistory_impl (D.on hW)
  cases hv : M.validHist h
  · have HY : Hid (M.AddEntry h y t = none) := Lib.hid (add_none1 hv)
    rw [hv] at HV
    clear hv D hd
    generalize h.log.length = m at *
    generalize h.times.length = n at *
    go_enter Try.func12, Try.ntmps12
    go_wp2_with fail
    refine (HV.out _ GB.out).mono ?_
    rintro e w1 ⟨rfl, hg⟩
    have G := Lib.hid (gb_trans GB.out hg)
    have R0 := Lib.hid (RB0.out.grown hg (by simp))
    have RX := Lib.hid (RB1.out.grown hg (by simp))
    have R1 := Lib.hid (RB2.out.grown hg (by simp))
    clear hg
    have q0 := R0.out.cell 0
    have q1 := R0.out.cell 1
    have x0 := RX.out.cell 0
    have x1 := RX.out.cell 1
    have x2 := RX.out.cell 2
    have x3 := RX.out.cell 3
    simp only [List.getElem?_cons_zero, List.getElem?_cons_succ] at q0 q1 x0 x1 x2 x3
    have g0 := R1.out.cell 0
    have g1 := R1.out.cell 1
    have f0 := R1.out.frozen 0
    have f1 := R1.out.frozen 1
    simp only [List.getElem?_cons_zero, List.getElem?_cons_succ] at g0 g1
    go_wp2_with fail
    refine bodyPost_ret (v := .tuple #[.agg #[.slice none 0 0, .slice none 0 0], .bool false]) (by simp [results, Try.results12, go_sem, g0, g1]) rfl (hisOpt_none HY.out ?_)
    repeat (with_reducible refine gb_setCell (p := ⟨_, _, none⟩) ?_ (.inl (by show _ ≤ w.heap.size + 1 + 1; omega)) _)
    exact G.out
  · rw [hv] at HV
    obtain ⟨z1, z2, z3, z4⟩ := hist_facts hv
    have HVL := Lib.hid hv
    have HSM : Hid (SmallE (h.log ++ [y])) := Lib.hid ⟨by rw [List.length_append]; simp; omega, fun x hx => by
      rw [List.mem_append] at hx
      rcases hx with hx | hx
      · exact D.1.2.2 x hx
      · simp at hx; subst hx; exact hyl⟩
    have HNL : Hid ((h.log ++ [y]).length = h.log.length + 1) := Lib.hid (by simp)
    have HNT : Hid ((h.times ++ [t]).length = h.times.length + 1) := Lib.hid (by simp)
    have HV2 : Hid (∀ W A B c d, SeesH W A B (M.addH h y t) → Calls Try.prog 48 #[.agg #[.slice A (h.log.length + 1) c, .slice B (h.times.length + 1) d]] W fun e w' => e = .returned (.bool (M.validHist (M.addH h y t))) ∧ W.grownBy w' none) := Lib.hid fun W A B c d x => by
      have e := isHistory_impl (c := c) (d := d) x
      rw [show (M.addH h y t).log.length = h.log.length + 1 from HNL.out, show (M.addH h y t).times.length = h.times.length + 1 from HNT.out] at e
      exact e
    have HC : Hid (∀ W, w.grownBy W none → Calls Try.prog 49 #[.agg #[.slice A h.log.length c, .slice B h.times.length d], .int .i64 1000] W fun e w' => ∃ v, e = .returned v ∧ HisMade W W.heap.size h v w') := Lib.hid fun W hW => by (have e := until_impl (c := c) (t := 1000) (D.on hW) z1 z2 z3 hd; rw [take_whole hv] at e; exact e)
    have hm32 := z3
    have hn32 : h.times.length ≤ 32 := by omega
    clear hv D hd z1 z2 z3 z4
    have hpl := hyl
    obtain ⟨m, hm⟩ : ∃ m, m = h.log.length := ⟨_, rfl⟩
    obtain ⟨n, hn⟩ : ∃ n, n = h.times.length := ⟨_, rfl⟩
    rw [← hm, ← hn] at HV HV2 HC RB0 RB1 RB2 GB
    rw [← hm] at hm32 HNL
    rw [← hn] at hn32 HNT
    rw [← hm, ← hn]
    have HM := Lib.hid hm
    have HN := Lib.hid hn
    clear hm hn hyl
    go_enter Try.func12, Try.ntmps12
    go_wp2_with fail
    refine (HV.out _ GB.out).mono ?_
    rintro e w1 ⟨rfl, hg⟩
    have G := Lib.hid (gb_trans GB.out hg)
    have R0 := Lib.hid (RB0.out.grown hg (by simp))
    have RX := Lib.hid (RB1.out.grown hg (by simp))
    have R1 := Lib.hid (RB2.out.grown hg (by simp))
    clear hg
    have q0 := R0.out.cell 0
    have q1 := R0.out.cell 1
    have x0 := RX.out.cell 0
    have x1 := RX.out.cell 1
    have x2 := RX.out.cell 2
    have x3 := RX.out.cell 3
    simp only [List.getElem?_cons_zero, List.getElem?_cons_succ] at q0 q1 x0 x1 x2 x3
    have g0 := R1.out.cell 0
    have g1 := R1.out.cell 1
    have f0 := R1.out.frozen 0
    have f1 := R1.out.frozen 1
    simp only [List.getElem?_cons_zero, List.getElem?_cons_succ] at g0 g1
    go_wp2_with fail
    refine (HC.out _ G.out).mono ?_
    rintro e w2 ⟨v, rfl, A1, c1, B1, d1, rfl, hc1, hd1, ho, hg⟩
    rw [← HM.out] at hc1 ho
    rw [← HN.out] at hd1 ho
    rw [← HM.out, ← HN.out]
    have hs1 := G.out.size
    have hlt := R1.out.lt
    have hs2 := hg.size
    have G2 := Lib.hid (gb_trans G.out hg)
    have S1 := Lib.hid (R1.out.grown hg (by simp))
    have SX := Lib.hid (RX.out.grown hg (by simp))
    have O2 := Lib.hid ho
    clear hc1 hd1 ho hg g0 g1 f0 f1 q0 q1 x0 x1 x2 x3
    go_wp2_with fail
    refine wp_name (fun W => Row W w2.heap.size 26 [.slice A1 m c1, .slice B1 n d1] ∧ w2.grownBy W none) ⟨Row.new w2 _ rfl, World.grownBy_alloc w2 _ none⟩ ?_
    rintro w5 ⟨hB, hg⟩
    have RO := Lib.hid hB
    have RE := Lib.hid (SX.out.grown hg (by simp))
    have RR := Lib.hid (S1.out.grown hg (by simp))
    have G5 := Lib.hid (gb_trans G2.out hg)
    have HU1 := Lib.hid ((HU.out.keep G5.out (Nat.le_refl _)).wide (Nat.le_refl _) G5.out.size)
    obtain ⟨LV, hLV, hO, hI, hP, hT, hDj⟩ := (O2.out.grown hg (by simp) : OwnH w5 w1.heap.size _ _ _ _)
    have hlv : LV.length = m := by rw [HM.out, ← hLV, List.length_map]
    have H1 := Lib.hid hLV
    have HLV := Lib.hid hlv
    have H2 : Hid (w5.ownsRow w1.heap.size 30 4 (.slice A1 LV.length c1) LV.length (cellsE LV)) := Lib.hid (by rw [hlv] at hO ⊢; exact hO)
    have H3 := Lib.hid hI
    have H4 := Lib.hid hP
    have H5 := Lib.hid hT
    have H6 := Lib.hid hDj
    have hs5 := hg.size
    have hl33 : LV.length ≤ 32 := by omega
    rw [← hlv] at RO
    have HGO : Hid (some w2.heap.size ≠ (Value.slice A1 LV.length c1).ownBlock) := Lib.hid (owns_ne H2.out RO.out (by decide))
    have HNE : Hid (∀ b, (Value.slice A1 LV.length c1).ownBlock = some b → w.heap.size + 1 < b) := Lib.hid fun b hb => by have := (H2.out.lt b hb).1; omega
    clear hB hg hLV hO hI hP hT hDj O2 hlv
    have e0 := RO.out.cell 0
    have e1 := RE.out.cell 0
    have e2 := RE.out.cell 1
    have e3 := RE.out.cell 2
    have e4 := RE.out.cell 3
    simp only [List.getElem?_cons_zero, List.getElem?_cons_succ] at e0 e1 e2 e3 e4
    go_cut [] (fun wx => HisPart w w5 w1.heap.size w2.heap.size (.slice B1 n d1) (h.log ++ [y]) h.times LV.length wx)
    case first =>
      go_region_law (first | (go_simp; go_at_call 50; refine (copyEntry_impl w5.drew (.slice Au y.item.pos.length cu) y hpl (HU1.out.agree (fun _ _ _ => rfl))).mono ?_; rintro e w3 ⟨Ac, cc, rfl, hc3, hg3⟩; have S3 := Lib.hid (gb_trans (gb_drew (gb_refl w5 none)) hg3); have HC3 := Lib.hid (show OwnInts .i64 3 w3 w5.heap.size (.slice Ac y.item.pos.length cc) y.item.pos from hc3); have H2b := Lib.hid (H2.out.kept S3.out (own_ge H2.out (by simp))); have b0 := (RO.out.grown S3.out (by simp)).cell 0; have b0a := ((RO.out.grown S3.out (by simp)).alloc (.cells #[.int .i64 y.kind, .int .i64 y.item.key, .slice Ac y.item.pos.length cc, .int .i64 y.item.tags] 30)).cell 0; simp only [List.getElem?_cons_zero, List.getElem?_cons_succ] at b0 b0a; have hs3 := S3.out.size; clear hc3 hg3) | (refine step_append_lies _ (by rfl) (.tmp 16) (.tmp 19) 23 (by rfl) (w1.heap.size) 30 i0 _ 4 48 Try.underlying23 hi0 hz0 hz1 hz2 rfl (by omega) (.slice A1 LV.length c1) LV.length (cellsE LV) (by rfl) (H2b.out.alloc (.cells #[.int .i64 y.kind, .int .i64 y.item.key, .slice Ac y.item.pos.length cc, .int .i64 y.item.tags] 30)) ⟨w3.heap.size, 0, none⟩ 1 1 [.int .i64 y.kind, .int .i64 y.item.key, .slice Ac y.item.pos.length cc, .int .i64 y.item.tags] (by rfl) (by rfl) (four_cell_at rfl) entry_oneCell (by omega) (by unfold maxLen; omega) (by omega) (by simp; omega) _ rfl ?_; intro gg cap w4 hown' hgrow hat hlt4; have T1 := Lib.hid hown'; have T2 := Lib.hid hgrow; have RO4 := Lib.hid (((RO.out.grown S3.out (by simp)).alloc (.cells #[.int .i64 y.kind, .int .i64 y.item.key, .slice Ac y.item.pos.length cc, .int .i64 y.item.tags] 30)).grown hgrow HGO.out); have d0 := RO4.out.cell 0; have df := RO4.out.frozen 0; simp only [List.getElem?_cons_zero, List.getElem?_cons_succ] at d0; clear hown' hgrow hat))
      all_goals
        go_wp2_with fail
        go_meet
        exact hisPart_of (by rw [H1.out]) G5.out H2.out H3.out H4.out H5.out H6.out S3.out HC3.out (by omega) (by omega) (by omega) T1.out T2.out RO4.out
    case rest =>
      obtain ⟨gg, cap, hr, ho, hgc, hsc, hf⟩ := hcut
      rw [HLV.out] at hr ho
      have RO6 := Lib.hid hr
      have O6 := Lib.hid ho
      have G6 := Lib.hid hgc
      have RR6 := Lib.hid (Row.of_block RR.out (hf (w.heap.size + 1 + 1) (by omega) (by omega) (by omega)))
      have HTL : Hid (wc.ownsRow w1.heap.size 3 1 (.slice B1 n d1) n (h.times.map (.int .i64))) := Lib.hid (by rw [HN.out]; rw [HN.out] at O6; exact O6.out.times)
      have q2 := RO6.out.cell 1
      have qf := RO6.out.frozen 1
      have q3 := RO6.out.cell 0
      simp only [List.getElem?_cons_zero, List.getElem?_cons_succ] at q2 q3
      clear hr ho hgc hf e0 e1 e2 e3 e4 RE RO HU1 H1 H2 H3 H4 H5 H6 HNE HGO
      go_wp2_with (at_builtin; refine wpList_append_lies _ rfl (.tmp 23) (.tmp 25) 24 rfl w1.heap.size 3 j0 _ 1 8 Try.underlying24 hj0 hy0 hy1 hy2 rfl (by decide) (.slice B1 n d1) n (h.times.map (.int .i64)) rfl (HTL.out.alloc (.cells #[.int .i64 t] 3)) ⟨wc.heap.size, 0, none⟩ 1 1 [.int .i64 t] rfl rfl one_cell_new (one_cells rfl) (by omega) (by unfold maxLen; omega) (by omega) (by simp; omega) _ rfl ?_; intro gg2 cap2 w6 hown' hgrow hat hlt6; have T3 := Lib.hid hown'; have T4 := Lib.hid hgrow; have T5 := Lib.hid hat; have RO7 := Lib.hid ((RO6.out.alloc (.cells #[.int .i64 t] 3)).grown hgrow (owns_ne (HTL.out.alloc (.cells #[.int .i64 t] 3)) (RO6.out.alloc (.cells #[.int .i64 t] 3)) (by decide))); have d0 := RO7.out.cell 0; have d1' := RO7.out.cell 1; have df := RO7.out.frozen 1; simp only [List.getElem?_cons_zero, List.getElem?_cons_succ] at d0 d1'; clear hown' hgrow hat)
      have OF := Lib.hid ((OwnH.pushT O6.out (World.grownBy_alloc wc (.cells #[.int .i64 t] 3) none) T3.out HN.out T4.out T5.out).set_row (i := 1) RO7.out (.slice (some ⟨gg2, 0, none⟩) (n + 1) cap2))
      have GF := Lib.hid (gb_setCell (p := ⟨w2.heap.size, 1, none⟩) (gb_new (gb_alloc G6.out (.cells #[.int .i64 t] 3)) T4.out (fun g hg => .inl (by have := (HTL.out.lt g hg).1; omega))) (.inl (by show w.heap.size ≤ w2.heap.size; omega)) (.slice (some ⟨gg2, 0, none⟩) (n + 1) cap2))
      have RF := Lib.hid (((RR6.out.alloc (.cells #[.int .i64 t] 3)).grown T4.out (owns_ne (HTL.out.alloc (.cells #[.int .i64 t] 3)) (RR6.out.alloc (.cells #[.int .i64 t] 3)) (by decide))).far (p := ⟨w2.heap.size, 1, none⟩) (by show w.heap.size + 1 + 1 ≠ w2.heap.size; omega) (.slice (some ⟨gg2, 0, none⟩) (n + 1) cap2))
      have ROF := Lib.hid (RO7.out.set_ 1 (.slice (some ⟨gg2, 0, none⟩) (n + 1) cap2))
      have hz6 := GF.out.size
      clear RO6 O6 G6 RR6 HTL q2 qf q3 T3 T4 T5 RO7
      have HV3 := Lib.hid (HV2.out _ _ _ cap cap2 (OwnH.sees OF.out HSM.out (by rw [HNT.out]; omega)))
      cases hv2 : M.validHist (M.addH h y t)
      · rw [hv2] at HV3
        have HY : Hid (M.AddEntry h y t = none) := Lib.hid (add_none2 hv2)
        clear hv2
        refine HV3.out.mono ?_
        rintro e w8 ⟨rfl, hg⟩
        have G := Lib.hid (gb_trans GF.out hg)
        have RR8 := Lib.hid (RF.out.grown hg (by simp))
        clear hg
        have g0 := RR8.out.cell 0
        have g1 := RR8.out.cell 1
        have f0 := RR8.out.frozen 0
        have f1 := RR8.out.frozen 1
        simp only [List.getElem?_cons_zero, List.getElem?_cons_succ] at g0 g1
        go_wp2_with fail
        refine bodyPost_ret (v := .tuple #[.agg #[.slice none 0 0, .slice none 0 0], .bool false]) (by simp [results, Try.results12, go_sem, g0, g1]) rfl (hisOpt_none HY.out ?_)
        repeat (with_reducible refine gb_setCell (p := ⟨_, _, none⟩) ?_ (.inl (by show _ ≤ w.heap.size + 1 + 1; omega)) _)
        exact G.out
      · rw [hv2] at HV3
        have HY : Hid (M.AddEntry h y t = some (M.addH h y t)) := Lib.hid (add_some HVL.out hv2)
        clear hv2
        refine HV3.out.mono ?_
        rintro e w8 ⟨rfl, hg⟩
        have G := Lib.hid (gb_trans GF.out hg)
        have RR8 := Lib.hid (RF.out.grown hg (by simp))
        have RO8 := Lib.hid (ROF.out.grown hg (by simp))
        have O8 := Lib.hid (OF.out.grown hg (by simp))
        clear hg
        have g0 := RR8.out.cell 0
        have g1 := RR8.out.cell 1
        have f0 := RR8.out.frozen 0
        have f1 := RR8.out.frozen 1
        simp only [List.getElem?_cons_zero, List.getElem?_cons_succ] at g0 g1
        have d0 := RO8.out.cell 0
        have d1' := RO8.out.cell 1
        simp only [List.getElem?_cons_zero, List.getElem?_cons_succ, List.set_cons_succ, List.set_cons_zero] at d0 d1'
        go_wp2_with fail
        refine bodyPost_ret (v := .tuple #[.agg #[.slice (some ⟨gg, 0, none⟩) (m + 1) cap, .slice (some ⟨gg2, 0, none⟩) (n + 1) cap2], .bool true]) (by simp [results, Try.results12, go_sem, g0, g1]) rfl (hisOpt_own HY.out HNL.out HNT.out ?_ ?_)
        · refine OwnH.wide (lo := w1.heap.size) ?_ (by omega)
          repeat (with_reducible refine OwnH.set_ (p := ⟨_, _, none⟩) ?_ (by show w.heap.size + 1 + 1 < _; omega) _)
          exact O8.out
        · repeat (with_reducible refine gb_setCell (p := ⟨_, _, none⟩) ?_ (.inl (by show _ ≤ w.heap.size + 1 + 1; omega)) _)
          exact G.out
set_option maxHeartbeats 4000000 in
theorem AddEntry_spec {w : World} {A B : Option Addr} {c d : Nat} {h : M.Hist} {y : M.Entry} {ue : Value} {t : Int} (D : SeesH w A B h) (hd : h.times.length ≤ d) (hy : RdInts .i64 w 0 w.heap.size ue y.item.pos) (hyl : y.item.pos.length ≤ 1048576) :
    Calls Try.prog 13 #[.agg #[.slice A h.log.length c, .slice B h.times.length d], .agg #[.int .i64 y.kind, .int .i64 y.item.key, ue, .int .i64 y.item.tags], .int .i64 t] w (HisOpt w (M.AddEntry h y t)) := by
  obtain ⟨i0, hi0, hz0, hz1, hz2⟩ := info_parts info_entry'
  obtain ⟨j0, hj0, hy0, hy1, hy2⟩ := info_parts info_int'
  obtain ⟨Au, cu, rfl, hcu, hru⟩ := hy
  have HU := Lib.hid (show RdInts .i64 w 0 w.heap.size (.slice Au y.item.pos.length cu) y.item.pos from ⟨_, _, rfl, hcu, hru⟩)
  clear hcu hru
  obtain ⟨rb0, rb1, rb2, gb0⟩ := add_boxes w (.slice A h.log.length c) (.slice B h.times.length d) (.int .i64 y.kind) (.int .i64 y.item.key) (.slice Au y.item.pos.length cu) (.int .i64 y.item.tags)
  have RB0 := Lib.hid rb0
  have RB1 := Lib.hid rb1
  have RB2 := Lib.hid rb2
  have GB := Lib.hid gb0
  clear rb0 rb1 rb2 gb0
  have HV : Hid (∀ W, w.grownBy W none → Calls Try.prog 51 #[.agg #[.slice A h.log.length c, .slice B h.times.length d]] W fun e w' => e = .returned (.bool (M.validHist h)) ∧ W.grownBy w' none) := Lib.hid fun W hW => validHistory_spec (D.on hW)
  cases hv : M.validHist h
  · have HY : Hid (M.AddEntry h y t = none) := Lib.hid (add_none1 hv)
    rw [hv] at HV
    clear hv D hd
    generalize h.log.length = m at *
    generalize h.times.length = n at *
    go_enter Try.func13, Try.ntmps13
    go_wp2_with fail
    refine (HV.out _ GB.out).mono ?_
    rintro e w1 ⟨rfl, hg⟩
    have G := Lib.hid (gb_trans GB.out hg)
    have R0 := Lib.hid (RB0.out.grown hg (by simp))
    have RX := Lib.hid (RB1.out.grown hg (by simp))
    have R1 := Lib.hid (RB2.out.grown hg (by simp))
    clear hg
    have q0 := R0.out.cell 0
    have q1 := R0.out.cell 1
    have x0 := RX.out.cell 0
    have x1 := RX.out.cell 1
    have x2 := RX.out.cell 2
    have x3 := RX.out.cell 3
    simp only [List.getElem?_cons_zero, List.getElem?_cons_succ] at q0 q1 x0 x1 x2 x3
    have g0 := R1.out.cell 0
    have g1 := R1.out.cell 1
    have f0 := R1.out.frozen 0
    have f1 := R1.out.frozen 1
    simp only [List.getElem?_cons_zero, List.getElem?_cons_succ] at g0 g1
    go_wp2_with fail
    refine bodyPost_ret (v := .tuple #[.agg #[.slice none 0 0, .slice none 0 0], .bool false]) (by simp [results, Try.results13, go_sem, g0, g1]) rfl (hisOpt_none HY.out ?_)
    repeat (with_reducible refine gb_setCell (p := ⟨_, _, none⟩) ?_ (.inl (by show _ ≤ w.heap.size + 1 + 1; omega)) _)
    exact G.out
  · rw [hv] at HV
    have HVE : Hid (∀ W, w.grownBy W none → Calls Try.prog 52 #[.agg #[.int .i64 y.kind, .int .i64 y.item.key, .slice Au y.item.pos.length cu, .int .i64 y.item.tags]] W fun e w' => e = .returned (.bool (M.validEntry y)) ∧ W.grownBy w' none) := Lib.hid fun W hW => validEntry_spec W _ y hyl ((HU.out.keep hW (Nat.le_refl _)).wide (Nat.le_refl _) hW.size)
    cases hve : M.validEntry y
    · have HY : Hid (M.AddEntry h y t = none) := Lib.hid (add_none3 hve)
      rw [hve] at HVE
      clear hve hv D hd
      generalize h.log.length = m at *
      generalize h.times.length = n at *
      go_enter Try.func13, Try.ntmps13
      go_wp2_with fail
      refine (HV.out _ GB.out).mono ?_
      rintro e w1 ⟨rfl, hg⟩
      have G := Lib.hid (gb_trans GB.out hg)
      have R0 := Lib.hid (RB0.out.grown hg (by simp))
      have RX := Lib.hid (RB1.out.grown hg (by simp))
      have R1 := Lib.hid (RB2.out.grown hg (by simp))
      clear hg
      have q0 := R0.out.cell 0
      have q1 := R0.out.cell 1
      have x0 := RX.out.cell 0
      have x1 := RX.out.cell 1
      have x2 := RX.out.cell 2
      have x3 := RX.out.cell 3
      simp only [List.getElem?_cons_zero, List.getElem?_cons_succ] at q0 q1 x0 x1 x2 x3
      have g0 := R1.out.cell 0
      have g1 := R1.out.cell 1
      have f0 := R1.out.frozen 0
      have f1 := R1.out.frozen 1
      simp only [List.getElem?_cons_zero, List.getElem?_cons_succ] at g0 g1
      go_wp2_with fail
      refine (HVE.out _ G.out).mono ?_
      rintro e w2 ⟨rfl, hg⟩
      replace G := Lib.hid (gb_trans G.out hg)
      have R2 := Lib.hid (R1.out.grown hg (by simp))
      clear hg q0 q1 x0 x1 x2 x3 g0 g1 f0 f1
      have g0 := R2.out.cell 0
      have g1 := R2.out.cell 1
      have f0 := R2.out.frozen 0
      have f1 := R2.out.frozen 1
      simp only [List.getElem?_cons_zero, List.getElem?_cons_succ] at g0 g1
      go_wp2_with fail
      refine bodyPost_ret (v := .tuple #[.agg #[.slice none 0 0, .slice none 0 0], .bool false]) (by simp [results, Try.results13, go_sem, g0, g1]) rfl (hisOpt_none HY.out ?_)
      repeat (with_reducible refine gb_setCell (p := ⟨_, _, none⟩) ?_ (.inl (by show _ ≤ w.heap.size + 1 + 1; omega)) _)
      exact G.out
    rw [hve] at HVE
    clear hve
    obtain ⟨z1, z2, z3, z4⟩ := hist_facts hv
    have HVL := Lib.hid hv
    have HSM : Hid (SmallE (h.log ++ [y])) := Lib.hid ⟨by rw [List.length_append]; simp; omega, fun x hx => by
      rw [List.mem_append] at hx
      rcases hx with hx | hx
      · exact D.1.2.2 x hx
      · simp at hx; subst hx; exact hyl⟩
    have HNL : Hid ((h.log ++ [y]).length = h.log.length + 1) := Lib.hid (by simp)
    have HNT : Hid ((h.times ++ [t]).length = h.times.length + 1) := Lib.hid (by simp)
    have HV2 : Hid (∀ W A B c d, SeesH W A B (M.addH h y t) → Calls Try.prog 51 #[.agg #[.slice A (h.log.length + 1) c, .slice B (h.times.length + 1) d]] W fun e w' => e = .returned (.bool (M.validHist (M.addH h y t))) ∧ W.grownBy w' none) := Lib.hid fun W A B c d x => by
      have e := validHistory_spec (c := c) (d := d) x
      rw [show (M.addH h y t).log.length = h.log.length + 1 from HNL.out, show (M.addH h y t).times.length = h.times.length + 1 from HNT.out] at e
      exact e
    have HC : Hid (∀ W, w.grownBy W none → Calls Try.prog 53 #[.agg #[.slice A h.log.length c, .slice B h.times.length d], .int .i64 h.log.length] W fun e w' => ∃ v, e = .returned v ∧ HisMade W W.heap.size h v w') := Lib.hid fun W hW => by (have e := copyHistory_spec (c := c) (d := d) (q := h.log.length) (D.on hW) (Nat.le_refl _) (by omega) hd z3; rw [take_whole' hv] at e; exact e)
    have hm32 := z3
    have hn32 : h.times.length ≤ 32 := by omega
    clear hv D hd z1 z2 z3 z4
    have hpl := hyl
    obtain ⟨m, hm⟩ : ∃ m, m = h.log.length := ⟨_, rfl⟩
    obtain ⟨n, hn⟩ : ∃ n, n = h.times.length := ⟨_, rfl⟩
    rw [← hm, ← hn] at HV HV2 HC RB0 RB1 RB2 GB
    rw [← hm] at hm32 HNL
    rw [← hn] at hn32 HNT
    rw [← hm, ← hn]
    have HM := Lib.hid hm
    have HN := Lib.hid hn
    clear hm hn hyl
    go_enter Try.func13, Try.ntmps13
    go_wp2_with fail
    refine (HV.out _ GB.out).mono ?_
    rintro e w1 ⟨rfl, hg⟩
    have G := Lib.hid (gb_trans GB.out hg)
    have R0 := Lib.hid (RB0.out.grown hg (by simp))
    have RX := Lib.hid (RB1.out.grown hg (by simp))
    have R1 := Lib.hid (RB2.out.grown hg (by simp))
    clear hg
    have q0 := R0.out.cell 0
    have q1 := R0.out.cell 1
    have x0 := RX.out.cell 0
    have x1 := RX.out.cell 1
    have x2 := RX.out.cell 2
    have x3 := RX.out.cell 3
    simp only [List.getElem?_cons_zero, List.getElem?_cons_succ] at q0 q1 x0 x1 x2 x3
    have g0 := R1.out.cell 0
    have g1 := R1.out.cell 1
    have f0 := R1.out.frozen 0
    have f1 := R1.out.frozen 1
    simp only [List.getElem?_cons_zero, List.getElem?_cons_succ] at g0 g1
    go_wp2_with fail
    refine (HVE.out _ G.out).mono ?_
    rintro e w1' ⟨rfl, hg⟩
    replace G := Lib.hid (gb_trans G.out hg)
    replace R0 := Lib.hid (R0.out.grown hg (by simp))
    replace R1 := Lib.hid (R1.out.grown hg (by simp))
    replace RX := Lib.hid (RX.out.grown hg (by simp))
    clear hg q0 q1 x0 x1 x2 x3 g0 g1 f0 f1 HV HVE
    obtain ⟨w1, hw1⟩ : ∃ w1 : World, w1 = w1' := ⟨_, rfl⟩
    subst hw1
    have q0 := R0.out.cell 0
    have q1 := R0.out.cell 1
    have x0 := RX.out.cell 0
    have x1 := RX.out.cell 1
    have x2 := RX.out.cell 2
    have x3 := RX.out.cell 3
    simp only [List.getElem?_cons_zero, List.getElem?_cons_succ] at q0 q1 x0 x1 x2 x3
    have g0 := R1.out.cell 0
    have g1 := R1.out.cell 1
    have f0 := R1.out.frozen 0
    have f1 := R1.out.frozen 1
    simp only [List.getElem?_cons_zero, List.getElem?_cons_succ] at g0 g1
    go_wp2_with fail
    refine (HC.out _ G.out).mono ?_
    rintro e w2 ⟨v, rfl, A1, c1, B1, d1, rfl, hc1, hd1, ho, hg⟩
    rw [← HM.out] at hc1 ho
    rw [← HN.out] at hd1 ho
    rw [← HM.out, ← HN.out]
    have hs1 := G.out.size
    have hlt := R1.out.lt
    have hs2 := hg.size
    have G2 := Lib.hid (gb_trans G.out hg)
    have S1 := Lib.hid (R1.out.grown hg (by simp))
    have SX := Lib.hid (RX.out.grown hg (by simp))
    have O2 := Lib.hid ho
    clear hc1 hd1 ho hg g0 g1 f0 f1 q0 q1 x0 x1 x2 x3
    go_wp2_with fail
    refine wp_name (fun W => Row W w2.heap.size 26 [.slice A1 m c1, .slice B1 n d1] ∧ w2.grownBy W none) ⟨Row.new w2 _ rfl, World.grownBy_alloc w2 _ none⟩ ?_
    rintro w5 ⟨hB, hg⟩
    have RO := Lib.hid hB
    have RE := Lib.hid (SX.out.grown hg (by simp))
    have RR := Lib.hid (S1.out.grown hg (by simp))
    have G5 := Lib.hid (gb_trans G2.out hg)
    have HU1 := Lib.hid ((HU.out.keep G5.out (Nat.le_refl _)).wide (Nat.le_refl _) G5.out.size)
    obtain ⟨LV, hLV, hO, hI, hP, hT, hDj⟩ := (O2.out.grown hg (by simp) : OwnH w5 w1.heap.size _ _ _ _)
    have hlv : LV.length = m := by rw [HM.out, ← hLV, List.length_map]
    have H1 := Lib.hid hLV
    have HLV := Lib.hid hlv
    have H2 : Hid (w5.ownsRow w1.heap.size 30 4 (.slice A1 LV.length c1) LV.length (cellsE LV)) := Lib.hid (by rw [hlv] at hO ⊢; exact hO)
    have H3 := Lib.hid hI
    have H4 := Lib.hid hP
    have H5 := Lib.hid hT
    have H6 := Lib.hid hDj
    have hs5 := hg.size
    have hl33 : LV.length ≤ 32 := by omega
    rw [← hlv] at RO
    have HGO : Hid (some w2.heap.size ≠ (Value.slice A1 LV.length c1).ownBlock) := Lib.hid (owns_ne H2.out RO.out (by decide))
    have HNE : Hid (∀ b, (Value.slice A1 LV.length c1).ownBlock = some b → w.heap.size + 1 < b) := Lib.hid fun b hb => by have := (H2.out.lt b hb).1; omega
    clear hB hg hLV hO hI hP hT hDj O2 hlv
    have e0 := RO.out.cell 0
    have e1 := RE.out.cell 0
    have e2 := RE.out.cell 1
    have e3 := RE.out.cell 2
    have e4 := RE.out.cell 3
    simp only [List.getElem?_cons_zero, List.getElem?_cons_succ] at e0 e1 e2 e3 e4
    go_cut [] (fun wx => HisPart w w5 w1.heap.size w2.heap.size (.slice B1 n d1) (h.log ++ [y]) h.times LV.length wx)
    case first =>
      go_region_law (first | (go_simp; go_at_call 54; refine (copyEntry_spec w5.drew (.slice Au y.item.pos.length cu) y hpl (HU1.out.agree (fun _ _ _ => rfl))).mono ?_; rintro e w3 ⟨Ac, cc, rfl, hc3, hg3⟩; have S3 := Lib.hid (gb_trans (gb_drew (gb_refl w5 none)) hg3); have HC3 := Lib.hid (show OwnInts .i64 3 w3 w5.heap.size (.slice Ac y.item.pos.length cc) y.item.pos from hc3); have H2b := Lib.hid (H2.out.kept S3.out (own_ge H2.out (by simp))); have b0 := (RO.out.grown S3.out (by simp)).cell 0; have b0a := ((RO.out.grown S3.out (by simp)).alloc (.cells #[.int .i64 y.kind, .int .i64 y.item.key, .slice Ac y.item.pos.length cc, .int .i64 y.item.tags] 30)).cell 0; simp only [List.getElem?_cons_zero, List.getElem?_cons_succ] at b0 b0a; have hs3 := S3.out.size; clear hc3 hg3) | (refine step_append_lies _ (by rfl) (.tmp 24) (.tmp 27) 23 (by rfl) (w1.heap.size) 30 i0 _ 4 48 Try.underlying23 hi0 hz0 hz1 hz2 rfl (by omega) (.slice A1 LV.length c1) LV.length (cellsE LV) (by rfl) (H2b.out.alloc (.cells #[.int .i64 y.kind, .int .i64 y.item.key, .slice Ac y.item.pos.length cc, .int .i64 y.item.tags] 30)) ⟨w3.heap.size, 0, none⟩ 1 1 [.int .i64 y.kind, .int .i64 y.item.key, .slice Ac y.item.pos.length cc, .int .i64 y.item.tags] (by rfl) (by rfl) (four_cell_at rfl) entry_oneCell (by omega) (by unfold maxLen; omega) (by omega) (by simp; omega) _ rfl ?_; intro gg cap w4 hown' hgrow hat hlt4; have T1 := Lib.hid hown'; have T2 := Lib.hid hgrow; have RO4 := Lib.hid (((RO.out.grown S3.out (by simp)).alloc (.cells #[.int .i64 y.kind, .int .i64 y.item.key, .slice Ac y.item.pos.length cc, .int .i64 y.item.tags] 30)).grown hgrow HGO.out); have d0 := RO4.out.cell 0; have df := RO4.out.frozen 0; simp only [List.getElem?_cons_zero, List.getElem?_cons_succ] at d0; clear hown' hgrow hat))
      all_goals
        go_wp2_with fail
        go_meet
        exact hisPart_of (by rw [H1.out]) G5.out H2.out H3.out H4.out H5.out H6.out S3.out HC3.out (by omega) (by omega) (by omega) T1.out T2.out RO4.out
    case rest =>
      obtain ⟨gg, cap, hr, ho, hgc, hsc, hf⟩ := hcut
      rw [HLV.out] at hr ho
      have RO6 := Lib.hid hr
      have O6 := Lib.hid ho
      have G6 := Lib.hid hgc
      have RR6 := Lib.hid (Row.of_block RR.out (hf (w.heap.size + 1 + 1) (by omega) (by omega) (by omega)))
      have HTL : Hid (wc.ownsRow w1.heap.size 3 1 (.slice B1 n d1) n (h.times.map (.int .i64))) := Lib.hid (by rw [HN.out]; rw [HN.out] at O6; exact O6.out.times)
      have q2 := RO6.out.cell 1
      have qf := RO6.out.frozen 1
      have q3 := RO6.out.cell 0
      simp only [List.getElem?_cons_zero, List.getElem?_cons_succ] at q2 q3
      clear hr ho hgc hf e0 e1 e2 e3 e4 RE RO HU1 H1 H2 H3 H4 H5 H6 HNE HGO
      go_wp2_with (at_builtin; refine wpList_append_lies _ rfl (.tmp 31) (.tmp 33) 24 rfl w1.heap.size 3 j0 _ 1 8 Try.underlying24 hj0 hy0 hy1 hy2 rfl (by decide) (.slice B1 n d1) n (h.times.map (.int .i64)) rfl (HTL.out.alloc (.cells #[.int .i64 t] 3)) ⟨wc.heap.size, 0, none⟩ 1 1 [.int .i64 t] rfl rfl one_cell_new (one_cells rfl) (by omega) (by unfold maxLen; omega) (by omega) (by simp; omega) _ rfl ?_; intro gg2 cap2 w6 hown' hgrow hat hlt6; have T3 := Lib.hid hown'; have T4 := Lib.hid hgrow; have T5 := Lib.hid hat; have RO7 := Lib.hid ((RO6.out.alloc (.cells #[.int .i64 t] 3)).grown hgrow (owns_ne (HTL.out.alloc (.cells #[.int .i64 t] 3)) (RO6.out.alloc (.cells #[.int .i64 t] 3)) (by decide))); have d0 := RO7.out.cell 0; have d1' := RO7.out.cell 1; have df := RO7.out.frozen 1; simp only [List.getElem?_cons_zero, List.getElem?_cons_succ] at d0 d1'; clear hown' hgrow hat)
      have OF := Lib.hid ((OwnH.pushT O6.out (World.grownBy_alloc wc (.cells #[.int .i64 t] 3) none) T3.out HN.out T4.out T5.out).set_row (i := 1) RO7.out (.slice (some ⟨gg2, 0, none⟩) (n + 1) cap2))
      have GF := Lib.hid (gb_setCell (p := ⟨w2.heap.size, 1, none⟩) (gb_new (gb_alloc G6.out (.cells #[.int .i64 t] 3)) T4.out (fun g hg => .inl (by have := (HTL.out.lt g hg).1; omega))) (.inl (by show w.heap.size ≤ w2.heap.size; omega)) (.slice (some ⟨gg2, 0, none⟩) (n + 1) cap2))
      have RF := Lib.hid (((RR6.out.alloc (.cells #[.int .i64 t] 3)).grown T4.out (owns_ne (HTL.out.alloc (.cells #[.int .i64 t] 3)) (RR6.out.alloc (.cells #[.int .i64 t] 3)) (by decide))).far (p := ⟨w2.heap.size, 1, none⟩) (by show w.heap.size + 1 + 1 ≠ w2.heap.size; omega) (.slice (some ⟨gg2, 0, none⟩) (n + 1) cap2))
      have ROF := Lib.hid (RO7.out.set_ 1 (.slice (some ⟨gg2, 0, none⟩) (n + 1) cap2))
      have hz6 := GF.out.size
      clear RO6 O6 G6 RR6 HTL q2 qf q3 T3 T4 T5 RO7
      have HV3 := Lib.hid (HV2.out _ _ _ cap cap2 (OwnH.sees OF.out HSM.out (by rw [HNT.out]; omega)))
      cases hv2 : M.validHist (M.addH h y t)
      · rw [hv2] at HV3
        have HY : Hid (M.AddEntry h y t = none) := Lib.hid (add_none2 hv2)
        clear hv2
        refine HV3.out.mono ?_
        rintro e w8 ⟨rfl, hg⟩
        have G := Lib.hid (gb_trans GF.out hg)
        have RR8 := Lib.hid (RF.out.grown hg (by simp))
        clear hg
        have g0 := RR8.out.cell 0
        have g1 := RR8.out.cell 1
        have f0 := RR8.out.frozen 0
        have f1 := RR8.out.frozen 1
        simp only [List.getElem?_cons_zero, List.getElem?_cons_succ] at g0 g1
        go_wp2_with fail
        refine bodyPost_ret (v := .tuple #[.agg #[.slice none 0 0, .slice none 0 0], .bool false]) (by simp [results, Try.results13, go_sem, g0, g1]) rfl (hisOpt_none HY.out ?_)
        repeat (with_reducible refine gb_setCell (p := ⟨_, _, none⟩) ?_ (.inl (by show _ ≤ w.heap.size + 1 + 1; omega)) _)
        exact G.out
      · rw [hv2] at HV3
        have HY : Hid (M.AddEntry h y t = some (M.addH h y t)) := Lib.hid (add_some HVL.out hv2)
        clear hv2
        refine HV3.out.mono ?_
        rintro e w8 ⟨rfl, hg⟩
        have G := Lib.hid (gb_trans GF.out hg)
        have RR8 := Lib.hid (RF.out.grown hg (by simp))
        have RO8 := Lib.hid (ROF.out.grown hg (by simp))
        have O8 := Lib.hid (OF.out.grown hg (by simp))
        clear hg
        have g0 := RR8.out.cell 0
        have g1 := RR8.out.cell 1
        have f0 := RR8.out.frozen 0
        have f1 := RR8.out.frozen 1
        simp only [List.getElem?_cons_zero, List.getElem?_cons_succ] at g0 g1
        have d0 := RO8.out.cell 0
        have d1' := RO8.out.cell 1
        simp only [List.getElem?_cons_zero, List.getElem?_cons_succ, List.set_cons_succ, List.set_cons_zero] at d0 d1'
        go_wp2_with fail
        refine bodyPost_ret (v := .tuple #[.agg #[.slice (some ⟨gg, 0, none⟩) (m + 1) cap, .slice (some ⟨gg2, 0, none⟩) (n + 1) cap2], .bool true]) (by simp [results, Try.results13, go_sem, g0, g1]) rfl (hisOpt_own HY.out HNL.out HNT.out ?_ ?_)
        · refine OwnH.wide (lo := w1.heap.size) ?_ (by omega)
          repeat (with_reducible refine OwnH.set_ (p := ⟨_, _, none⟩) ?_ (by show w.heap.size + 1 + 1 < _; omega) _)
          exact O8.out
        · repeat (with_reducible refine gb_setCell (p := ⟨_, _, none⟩) ?_ (.inl (by show _ ≤ w.heap.size + 1 + 1; omega)) _)
          exact G.out
end Go.Proofs.Ythoakomccjjhbaa
