/- The walks of logs between stores. -/
import Derived.Test.YtejbfmnioomkbaaLogW
import Derived.Test.YtejbfmnioomkbaaDistW
import Derived.Test.YtejbfmnioomkbaaPure
namespace Go.Proofs.Ytejbfmnioomkbaa
open Go.RowKit
set_option linter.unusedVariables false
set_option maxRecDepth 100000

def BetMade (w : World) (L : List M.Entry) (e : Ending) (w' : World) : Prop := ∃ v, e = .returned v ∧ OwnEntries w' w.heap.size v L ∧ w.grownBy w' none
theorem betMade_nil {w w' : World} (h : w.grownBy w' none) : BetMade w [] (.returned (.slice none 0 0)) w' :=
  ⟨_, rfl, ⟨[], rfl, ⟨rfl, .inl ⟨rfl, rfl⟩⟩, by simp, List.Pairwise.nil⟩, h⟩
theorem vecs_of_valid {L : List M.Item} (h : M.validStore L = true) : ∀ x ∈ L, x.pos.length = 4 ∧ ∀ c ∈ x.pos, -100 ≤ c ∧ c ≤ 100 := fun x hx => by
  have h2 := (M.validStore_of h).2.1 x hx
  unfold M.validItem at h2
  simp only [Bool.and_eq_true] at h2
  exact M.isVec_iff.1 h2.1.2
set_option maxHeartbeats 2000000 in
theorem LogBetween_impl {w : World} {A B : Option Addr} {c d : Nat} {a b : List M.Item} (D : SeesI w A a) (E : SeesI w B b) :
    Calls Try.prog 9 #[.slice A a.length c, .slice B b.length d] w (BetMade w (M.LogBetween a b)) := by
  obtain ⟨i0, hi0, hz0, hz1, hz2⟩ := info_parts info_entry'
  have HA := Lib.hid D
  have HB := Lib.hid E
  have HV := Lib.hid (vs_impl (c := c) D)
  have HW : Hid (∀ W, w.grownBy W none → Calls Try.prog 27 #[.slice B b.length d] W fun e w' => e = .returned (.bool (M.validStore b)) ∧ W.grownBy w' none) := Lib.hid fun W hW => vs_impl (E.on hW)
  clear D E
  cases hva : M.validStore a
  · have HF : Hid (M.LogBetween a b = []) := Lib.hid (by unfold M.LogBetween; rw [hva]; rfl)
    rw [HF.out]
    rw [hva] at HV
    clear hva
    generalize a.length = n at *
    generalize b.length = m at *
    go_enter Try.func9, Try.ntmps9
    go_wp2_with fail
    refine HV.out.mono ?_
    rintro e w1 ⟨rfl, hg⟩
    have G := Lib.hid hg
    clear hg
    go_wp2_with fail
    go_ret
    exact betMade_nil G.out
  · cases hvb : M.validStore b
    · have HF : Hid (M.LogBetween a b = []) := Lib.hid (by unfold M.LogBetween; rw [hvb]; simp)
      rw [HF.out]
      rw [hva] at HV
      rw [hvb] at HW
      clear hva hvb
      generalize a.length = n at *
      generalize b.length = m at *
      go_enter Try.func9, Try.ntmps9
      go_wp2_with fail
      refine HV.out.mono ?_
      rintro e w1 ⟨rfl, hg⟩
      have G := Lib.hid hg
      clear hg
      go_wp2_with fail
      refine (HW.out _ G.out).mono ?_
      rintro e w2 ⟨rfl, hg⟩
      have G2 := Lib.hid (gb_trans G.out hg)
      clear hg
      go_wp2_with fail
      go_ret
      exact betMade_nil G2.out
    · have HF : Hid (M.LogBetween a b = M.dropsTo a b a.length ++ M.putsTo a b b.length) := Lib.hid (by unfold M.LogBetween; rw [hva, hvb]; rfl)
      rw [HF.out]
      rw [hva] at HV
      rw [hvb] at HW
      have ha16 : a.length ≤ 16 := by unfold M.validStore at hva; simp at hva; exact hva.2
      have hb16 : b.length ≤ 16 := by unfold M.validStore at hvb; simp at hvb; exact hvb.2
      clear hva hvb
      obtain ⟨n, hn⟩ : ∃ n, n = a.length := ⟨_, rfl⟩
      obtain ⟨m, hm⟩ : ∃ n, n = b.length := ⟨_, rfl⟩
      rw [← hn] at HV ha16 ⊢
      rw [← hm] at HW hb16 ⊢
      have HN := Lib.hid hn
      have HM := Lib.hid hm
      clear hn hm
      go_enter Try.func9, Try.ntmps9
      go_wp2_with fail
      refine HV.out.mono ?_
      rintro e w1 ⟨rfl, hg⟩
      have G := Lib.hid hg
      clear hg
      go_wp2_with fail
      refine (HW.out _ G.out).mono ?_
      rintro e w2 ⟨rfl, hg⟩
      have G2 := Lib.hid (gb_trans G.out hg)
      have DA := Lib.hid (HA.out.on G2.out)
      have DB := Lib.hid (HB.out.on G2.out)
      clear hg HV HW
      go_wp2_with fail
      go_loopw [5, 22] (fun v i wr => ∃ k : Nat, k ≤ n ∧ i = .int .i64 k ∧ OwnEntries wr w2.heap.size v (M.dropsTo a b k) ∧ w2.grownBy wr none) (fun _ i _ => n - (intOf i).toNat)
      case atStart =>
        refine ⟨0, Nat.zero_le _, rfl, ⟨[], rfl, ?_, by simp, List.Pairwise.nil⟩, gb_alloc (gb_refl _ _) _⟩
        have := World.ownsRow_made (base := w2.heap.size) (e := 38) (size := 4) w2 #[] 0 (Nat.le_refl _) (by decide) rfl
        simpa [cellsE] using this
      case round =>
        obtain ⟨k, hk, rfl, hown, hg⟩ := hrel
        have O := Lib.hid hown
        have G := Lib.hid hg
        have hszw := hg.size
        clear hown hg
        by_cases hlt : k < n
        · have hkl : k < a.length := by rw [← HN.out]; exact hlt
          obtain ⟨b1, o1, rfl, hb1, hb2, hI⟩ := DA.out.1.at_ (List.getElem?_eq_getElem hkl)
          obtain ⟨u, c0, c1, c2, hu⟩ := hI.agree hb1 hb2 (Agree.of_grown G.out)
          obtain ⟨Au, cu, rfl, hcu, hru⟩ := hu
          have HSUC := Lib.hid (M.dropsTo_succ (b := b) hkl)
          have hlen := M.dropsTo_len a b k
          rw [← HN.out] at hlen
          have kn : (k : Int) < n := by omega
          have HK : Hid (∀ W, w2.grownBy W none → Calls Try.prog 20 #[.slice B m d, .int .i64 a[k].key] W fun e w' => e = .returned (.int .i64 (M.keyAt b a[k].key)) ∧ W.grownBy w' none) := Lib.hid fun W hW => by
            have h := indexOf_impl (c := d) (k := a[k].key) (DB.out.on hW)
            rwa [← HM.out] at h
          have hkr := M.keyAt_lt b a[k].key
          have HNK : Hid (M.noKey b a[k] = decide (M.keyAt b a[k].key < 0)) := Lib.hid rfl
          clear hI hcu hru
          generalize a[k] = y at *
          generalize M.keyAt b y.key = q at *
          go_wp2_with fail
          have B0 := Lib.hid (Row.new wr 36 (ca := #[.int .i64 y.key, .slice Au y.pos.length cu, .int .i64 y.tags]) rfl)
          refine (HK.out _ (gb_trans G.out (World.grownBy_alloc _ _ _))).mono ?_
          rintro e w3 ⟨rfl, hg⟩
          have B2 := Lib.hid (B0.out.grown hg (by simp))
          have G3 := Lib.hid (gb_trans (World.grownBy_alloc _ _ _) hg)
          clear hg
          by_cases hq : q < 0
          · have tq : decide (q < 0) = true := by simp [hq]
            rw [HNK.out, tq, if_pos rfl] at HSUC
            obtain ⟨LV, hLV, hO, hI9, hP⟩ := O.out
            have hlv16 : LV.length ≤ 16 := by
              have := congrArg List.length hLV
              rw [List.length_map] at this
              omega
            have H1 := Lib.hid hLV
            have H2 := Lib.hid hO
            have H3 := Lib.hid hI9
            have H4 := Lib.hid hP
            have H2a := Lib.hid ((H2.out.kept G3.out (own_ge H2.out (by simp))).alloc (.cells #[.int .i64 2, .int .i64 y.key, .slice none 0 0, .int .i64 0] 38))
            have hs3 := G3.out.size
            clear hLV hO hI9 hP
            have b0 := B2.out.cell 0
            have b1 := B2.out.cell 1
            have b2 := B2.out.cell 2
            have bf0 := B2.out.frozen 0
            have bf1 := B2.out.frozen 1
            have bf2 := B2.out.frozen 2
            simp only [List.getElem?_cons_zero, List.getElem?_cons_succ] at b0 b1 b2
            go_wp2_with (at_builtin; refine wpList_append_own _ rfl (.tmp 31) (.tmp 36) 23 rfl w2.heap.size 38 i0 _ 4 48 Try.underlying23 hi0 hz0 hz1 hz2 rfl (by decide) _ LV.length (cellsE LV) rfl H2a.out ⟨w3.heap.size, 0, none⟩ 1 1 [.int .i64 2, .int .i64 y.key, .slice none 0 0, .int .i64 0] rfl rfl (four_cell_at rfl) entry_oneCell (by unfold maxLen; omega) (by omega) (by simp; omega) ?_; intro v' w4 hown' hgrow _; have T1 := Lib.hid hown'; have T2 := Lib.hid hgrow; clear hown' hgrow)
            go_roundw
            case rel =>
              refine ⟨k + 1, by omega, by go_num, ?_, gb_new (gb_alloc (gb_trans G.out G3.out) _) T2.out (fun b hb => .inl (H2.out.lt b hb).1)⟩
              rw [HSUC.out, ← H1.out]
              exact epush_step (y := M.dropOf y) H2.out H3.out H4.out G3.out ⟨rfl, .inl ⟨rfl, rfl⟩⟩ hszw (World.grownBy_alloc _ _ _) T1.out T2.out
            case measure => simp [intOf]; omega
          · have tq : decide (q < 0) = false := by simp [hq]
            rw [HNK.out, tq] at HSUC
            go_wp2_with fail
            go_roundw
            case rel => exact ⟨k + 1, by omega, by go_num, (by have h := O.out.grown G3.out (by simp); rw [HSUC.out]; simpa using h), gb_trans G.out G3.out⟩
            case measure => simp [intOf]; omega
        · obtain rfl : k = n := by omega
          go_wp2_with fail
          have DS := Lib.hid (M.dropsTo_len a b k)
          have hdl := DS.out
          rw [← HN.out] at hdl
          generalize hDR : M.dropsTo a b k = DR at *
          have HDR := Lib.hid hDR
          clear hDR
          go_loopw [5, 41] (fun v i wr => ∃ j : Nat, j ≤ m ∧ i = .int .i64 j ∧ OwnEntries wr w2.heap.size v (DR ++ M.putsTo a b j) ∧ w2.grownBy wr none) (fun _ i _ => m - (intOf i).toNat)
          case atStart => exact ⟨0, Nat.zero_le _, rfl, by simpa [M.putsTo] using O.out, G.out⟩
          case round =>
            clear O G hszw
            obtain ⟨j, hj, rfl, hown, hg⟩ := hrel
            have O := Lib.hid hown
            have G := Lib.hid hg
            have hszw := hg.size
            clear hown hg
            by_cases hjm : j < m
            · have hjl : j < b.length := by rw [← HM.out]; exact hjm
              obtain ⟨b1, o1, rfl, hb1, hb2, hI⟩ := DB.out.1.at_ (List.getElem?_eq_getElem hjl)
              obtain ⟨u, c0, c1, c2, hu⟩ := hI.agree hb1 hb2 (Agree.of_grown G.out)
              obtain ⟨Au, cu, rfl, hcu, hru⟩ := hu
              have HU := Lib.hid (show RdInts .i64 wr 0 wr.heap.size (.slice Au b[j].pos.length cu) b[j].pos from (show RdInts .i64 wr 0 w2.heap.size (.slice Au b[j].pos.length cu) b[j].pos from ⟨_, _, rfl, hcu, hru⟩).wide (Nat.le_refl _) hszw)
              have hpl : b[j].pos.length ≤ 1048576 := DB.out.2.2 _ (List.getElem_mem hjl)
              have HSUC := Lib.hid (M.putsTo_succ (a := a) hjl)
              have hlen := M.putsTo_len a b j
              rw [← HM.out] at hlen
              have jm : (j : Int) < m := by omega
              have HK : Hid (∀ W, w2.grownBy W none → Calls Try.prog 20 #[.slice A k c, .int .i64 b[j].key] W fun e w' => e = .returned (.int .i64 (M.keyAt a b[j].key)) ∧ W.grownBy w' none) := Lib.hid fun W hW => by
                have h := indexOf_impl (c := c) (k := b[j].key) (DA.out.on hW)
                rwa [← HN.out] at h
              have HCA := Lib.hid (M.keyAt_cases a b[j].key)
              clear hI hcu hru
              generalize b[j] = y at *
              go_wp2_with fail
              have B0 := Lib.hid (Row.new wr 36 (ca := #[.int .i64 y.key, .slice Au y.pos.length cu, .int .i64 y.tags]) rfl)
              refine (HK.out _ (gb_trans G.out (World.grownBy_alloc _ _ _))).mono ?_
              rintro e w3 ⟨rfl, hg⟩
              have B2 := Lib.hid (B0.out.grown hg (by simp))
              have G3 := Lib.hid (gb_trans (World.grownBy_alloc _ _ _) hg)
              clear hg
              rcases HCA.out with ⟨hq, hf⟩ | ⟨i, hi, hq, hf⟩
              · have HNE := Lib.hid (M.need_none hf)
                rw [HNE.out, if_pos rfl] at HSUC
                rw [hq]
                clear hq hf
                have l0 : ∀ x : Later w3, x.w.cell? ⟨wr.heap.size, 0, none⟩ = some (.int .i64 y.key) := fun x => x.cell (B2.out.cell 0)
                go_wp2_with fail
                refine wp_region_later (by kernel_rfl) (by kernel_rfl) ?_
                repeat (go_big_quiet_step (fail))
                refine wpQuiet_nil ?_
                rintro _ ⟨x, rfl⟩
                have hx := x.h
                have G4 := Lib.hid (gb_trans G3.out hx)
                have B4 := Lib.hid (B2.out.grown hx (by simp))
                generalize x.w = w4 at *
                clear hx
                have b0 := B4.out.cell 0
                have b1 := B4.out.cell 1
                have b2 := B4.out.cell 2
                have bf0 := B4.out.frozen 0
                have bf1 := B4.out.frozen 1
                have bf2 := B4.out.frozen 2
                simp only [List.getElem?_cons_zero, List.getElem?_cons_succ] at b0 b1 b2
                obtain ⟨LV, hLV, hO, hI9, hP⟩ := O.out
                have hlv16 : LV.length ≤ 32 := by
                  have := congrArg List.length hLV
                  rw [List.length_map, List.length_append] at this
                  omega
                have H1 := Lib.hid hLV
                have H2 := Lib.hid hO
                have H3 := Lib.hid hI9
                have H4 := Lib.hid hP
                go_wp2_with fail
                refine (copyItem_impl w4 (.slice Au y.pos.length cu) 0 w4.heap.size y hpl ((HU.out.keep G4.out (Nat.le_refl _)).wide (Nat.le_refl _) G4.out.size) (Nat.le_refl _)).mono ?_
                rintro e w5 ⟨Ac, cc, rfl, hc5, hg5⟩
                have G5 := Lib.hid (gb_trans G4.out hg5)
                have HC5 := Lib.hid (OwnInts.wide hc5 (show wr.heap.size ≤ w4.heap.size from G4.out.size))
                have H2a := Lib.hid ((H2.out.kept G5.out (own_ge H2.out (by simp))).alloc (.cells #[.int .i64 1, .int .i64 y.key, .slice Ac y.pos.length cc, .int .i64 y.tags] 38))
                have hs5 := G5.out.size
                clear hLV hO hI9 hP hg5 hc5
                go_wp2_with (at_builtin; refine wpList_append_own _ rfl (.tmp 60) (.tmp 64) 23 rfl w2.heap.size 38 i0 _ 4 48 Try.underlying23 hi0 hz0 hz1 hz2 rfl (by decide) _ LV.length (cellsE LV) rfl H2a.out ⟨w5.heap.size, 0, none⟩ 1 1 [.int .i64 1, .int .i64 y.key, .slice Ac y.pos.length cc, .int .i64 y.tags] rfl rfl (four_cell_at rfl) entry_oneCell (by unfold maxLen; omega) (by omega) (by simp; omega) ?_; intro v' w6 hown' hgrow _; have T1 := Lib.hid hown'; have T2 := Lib.hid hgrow; clear hown' hgrow)
                go_roundw
                case rel =>
                  refine ⟨j + 1, by omega, by go_num, ?_, gb_new (gb_alloc (gb_trans G.out G5.out) _) T2.out (fun b hb => .inl (H2.out.lt b hb).1)⟩
                  rw [HSUC.out, ← List.append_assoc, ← H1.out]
                  exact epush_step (y := M.putOf y) H2.out H3.out H4.out G5.out HC5.out hszw (World.grownBy_alloc _ _ _) T1.out T2.out
                case measure => simp [intOf]; omega
              · have HNE := Lib.hid (M.need_some hf)
                rw [HNE.out] at HSUC
                rw [hq]
                obtain ⟨b2, o2, rfl, hb3, hb4, hJ⟩ := DA.out.1.at_ (List.getElem?_eq_getElem hi)
                obtain ⟨ux, d0, d1, d2, hux⟩ := hJ.agree hb3 hb4 (Agree.of_grown (gb_trans G.out G3.out))
                obtain ⟨Ax, cx, rfl, hcx, hrx⟩ := hux
                have HX := Lib.hid (show RdInts .i64 w3 0 w2.heap.size (.slice Ax a[i].pos.length cx) a[i].pos from ⟨_, _, rfl, hcx, hrx⟩)
                have hs23 := (gb_trans G.out G3.out).size
                have hpx : a[i].pos.length ≤ 1048576 := DA.out.2.2 _ (List.getElem_mem hi)
                have hik : i < k := by rw [HN.out]; exact hi
                have ik : (i : Int) < k := by omega
                have i0' : decide ((i : Int) < 0) = false := by simp
                have HC : Hid (∀ W, w3.grownBy W none → Calls Try.prog 21 #[.agg #[.int .i64 a[i].key, .slice Ax a[i].pos.length cx, .int .i64 a[i].tags], .agg #[.int .i64 y.key, .slice Au y.pos.length cu, .int .i64 y.tags]] W fun e w' => e = .returned (.bool (M.sameB a[i] y)) ∧ W.grownBy w' none) := Lib.hid fun W hW =>
                  implSame_any W _ _ a[i] y hpx ((HX.out.keep hW hs23).wide (Nat.le_refl _) (by have := hW.size; omega)) ((HU.out.keep (gb_trans G3.out hW) (Nat.le_refl _)).wide (Nat.le_refl _) (gb_trans G3.out hW).size)
                clear hq hf hJ hcx hrx
                generalize a[i] = z at *
                have l0 : ∀ x : Later w3, x.w.cell? ⟨wr.heap.size, 0, none⟩ = some (.int .i64 y.key) := fun x => x.cell (B2.out.cell 0)
                have l1 : ∀ x : Later w3, x.w.cell? ⟨wr.heap.size, 1, none⟩ = some (.slice Au y.pos.length cu) := fun x => x.cell (B2.out.cell 1)
                have l2 : ∀ x : Later w3, x.w.cell? ⟨wr.heap.size, 2, none⟩ = some (.int .i64 y.tags) := fun x => x.cell (B2.out.cell 2)
                have m0 : ∀ x : Later w3, x.w.cell? ⟨b2, o2 + i * 3, none⟩ = some (.int .i64 z.key) := fun x => x.cell d0
                have m1 : ∀ x : Later w3, x.w.cell? ⟨b2, o2 + i * 3 + 1, none⟩ = some (.slice Ax z.pos.length cx) := fun x => x.cell d1
                have m2 : ∀ x : Later w3, x.w.cell? ⟨b2, o2 + i * 3 + 2, none⟩ = some (.int .i64 z.tags) := fun x => x.cell d2
                clear d0 d1 d2
                cases hsm : M.sameB z y
                · rw [hsm] at HSUC HC
                  clear hsm
                  go_wp2_with fail
                  refine wp_region_later (by kernel_rfl) (by kernel_rfl) ?_
                  repeat (go_big_quiet_step ((go_at_call 21; exact later_call (HC.out _ (Later.h _)))))
                  refine wpQuiet_nil ?_
                  rintro _ ⟨x, rfl⟩
                  have hx := x.h
                  have G4 := Lib.hid (gb_trans G3.out hx)
                  have B4 := Lib.hid (B2.out.grown hx (by simp))
                  generalize x.w = w4 at *
                  clear hx
                  have b0 := B4.out.cell 0
                  have b1 := B4.out.cell 1
                  have b2 := B4.out.cell 2
                  have bf0 := B4.out.frozen 0
                  have bf1 := B4.out.frozen 1
                  have bf2 := B4.out.frozen 2
                  simp only [List.getElem?_cons_zero, List.getElem?_cons_succ] at b0 b1 b2
                  obtain ⟨LV, hLV, hO, hI9, hP⟩ := O.out
                  have hlv16 : LV.length ≤ 32 := by
                    have := congrArg List.length hLV
                    rw [List.length_map, List.length_append] at this
                    omega
                  have H1 := Lib.hid hLV
                  have H2 := Lib.hid hO
                  have H3 := Lib.hid hI9
                  have H4 := Lib.hid hP
                  go_wp2_with fail
                  refine (copyItem_impl w4 (.slice Au y.pos.length cu) 0 w4.heap.size y hpl ((HU.out.keep G4.out (Nat.le_refl _)).wide (Nat.le_refl _) G4.out.size) (Nat.le_refl _)).mono ?_
                  rintro e w5 ⟨Ac, cc, rfl, hc5, hg5⟩
                  have G5 := Lib.hid (gb_trans G4.out hg5)
                  have HC5 := Lib.hid (OwnInts.wide hc5 (show wr.heap.size ≤ w4.heap.size from G4.out.size))
                  have H2a := Lib.hid ((H2.out.kept G5.out (own_ge H2.out (by simp))).alloc (.cells #[.int .i64 1, .int .i64 y.key, .slice Ac y.pos.length cc, .int .i64 y.tags] 38))
                  have hs5 := G5.out.size
                  clear hLV hO hI9 hP hg5 hc5
                  go_wp2_with (at_builtin; refine wpList_append_own _ rfl (.tmp 60) (.tmp 64) 23 rfl w2.heap.size 38 i0 _ 4 48 Try.underlying23 hi0 hz0 hz1 hz2 rfl (by decide) _ LV.length (cellsE LV) rfl H2a.out ⟨w5.heap.size, 0, none⟩ 1 1 [.int .i64 1, .int .i64 y.key, .slice Ac y.pos.length cc, .int .i64 y.tags] rfl rfl (four_cell_at rfl) entry_oneCell (by unfold maxLen; omega) (by omega) (by simp; omega) ?_; intro v' w6 hown' hgrow _; have T1 := Lib.hid hown'; have T2 := Lib.hid hgrow; clear hown' hgrow)
                  go_roundw
                  case rel =>
                    refine ⟨j + 1, by omega, by go_num, ?_, gb_new (gb_alloc (gb_trans G.out G5.out) _) T2.out (fun b hb => .inl (H2.out.lt b hb).1)⟩
                    rw [HSUC.out, ← List.append_assoc, ← H1.out]
                    exact epush_step (y := M.putOf y) H2.out H3.out H4.out G5.out HC5.out hszw (World.grownBy_alloc _ _ _) T1.out T2.out
                  case measure => simp [intOf]; omega
                · rw [hsm] at HSUC HC
                  clear hsm
                  go_wp2_with fail
                  refine wp_region_later (by kernel_rfl) (by kernel_rfl) ?_
                  repeat (go_big_quiet_step ((go_at_call 21; exact later_call (HC.out _ (Later.h _)))))
                  refine wpQuiet_nil ?_
                  rintro _ ⟨x, rfl⟩
                  have hx := x.h
                  have G4 := Lib.hid (gb_trans G3.out hx)
                  have B4 := Lib.hid (B2.out.grown hx (by simp))
                  generalize x.w = w4 at *
                  clear hx
                  go_wp2_with fail
                  go_roundw
                  case rel => exact ⟨j + 1, by omega, by go_num, (by have h := O.out.grown G4.out (by simp); rw [HSUC.out]; simpa using h), gb_trans G.out G4.out⟩
                  case measure => simp [intOf]; omega
            · obtain rfl : j = m := by omega
              go_wp2_with fail
              go_ret
              refine ⟨_, rfl, ?_, gb_trans G2.out G.out⟩
              exact O.out.wide G2.out.size
end Go.Proofs.Ytejbfmnioomkbaa
