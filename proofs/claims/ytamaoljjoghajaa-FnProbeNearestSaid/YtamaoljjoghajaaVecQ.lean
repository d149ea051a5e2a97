/- The walks of the search among the nearest centres' items. ProbeNearest of the program. ProbeNearest of the reference. The program's order of centres, nearest centre and distance, as a law calls them. -/
import Derived.Test.YtamaoljjoghajaaVecM
namespace Go.Proofs.Ytamaoljjoghajaa
open Go.RowKit
set_option linter.unusedVariables false
set_option linter.unusedSimpArgs false
set_option maxRecDepth 100000
theorem vecs_ofR {L : List M.Item} (hv : M.validStore L = true) : ∀ x ∈ L, M.isVec x.pos = true := fun x hx => (M.item_of hv hx).2.1
set_option maxHeartbeats 2000000 in
theorem probed_impl {w : World} {A0 A B : Option Addr} {c ci d : Nat} {C : List (List Int)} {L : List M.Item} {m : List Int} {k : Int} (DC : SeesV w A0 C) (D : SeesI w A L) (E : SeesN .i64 w B m) (hC : M.areVecs C = true) (hL : M.validStore L = true) (hm : M.isVec m = true) (hk : 1 ≤ k) (hk2 : k ≤ 1000) :
    Calls Try.prog 59 #[.slice A0 C.length c, .slice A L.length ci, .slice B m.length d, .int .i64 k] w fun e w' => ∃ v, e = .returned v ∧ RdItems w' 0 w'.heap.size v (M.probed C L m k.toNat) ∧ w.grownBy w' none := by
  obtain ⟨i0, hi0, hz0, hz1, hz2⟩ := info_parts info_item'
  have HPO := Lib.hid (probeOrder_any (c := c) (d := d) (k := k) (Nat.le_refl _) DC.1 E.1 hC hm hk hk2)
  have HCO : Hid (∀ W Au cu (y : M.Item), w.grownBy W none → M.isVec y.pos = true → SeesN .i64 W Au y.pos → Calls Try.prog 68 #[.slice A0 C.length c, .slice Au y.pos.length cu] W fun e w' => e = .returned (.int .i64 (M.centre C y.pos : Nat)) ∧ W.grownBy w' none) := Lib.hid fun W Au cu y hW hy hs => centreOf_impl (DC.on hW) hs hC hy
  have HPD := Lib.hid (fun j (hj : j < L.length) => probed_take hj C m k.toNat)
  have HPD0 : Hid (M.probed C (L.take 0) m k.toNat = []) := Lib.hid (by simp [M.probed])
  have HPLE := Lib.hid (fun j => probed_le C (L.take j) m k.toNat)
  have HP4 := Lib.hid (probesL_le hC m k.toNat)
  have HVV := Lib.hid (vecs_ofR hL)
  have hl16 := (M.validStore_of hL).1
  obtain ⟨n, hn⟩ : ∃ n, n = L.length := ⟨_, rfl⟩
  have HL := Lib.hid hn
  have HPE : Hid (M.probed C (L.take n) m k.toNat = M.probed C L m k.toNat) := Lib.hid (by rw [List.take_of_length_le (by rw [hn]; exact Nat.le_refl _)])
  have HD := Lib.hid D
  rw [← hn] at hl16 ⊢
  generalize M.probesL C m k.toNat = P at *
  clear hn D E DC hC hL hm
  go_enter Try.func59, Try.ntmps59
  go_wp2_with fail
  refine HPO.out.mono ?_
  rintro e w1 ⟨v1, rfl, ho, hg1⟩
  obtain ⟨Ao, co, rfl, hco, hro⟩ := OwnInts.rd (k := .i64) (t := 3) (l := P) ho
  have G1 := Lib.hid hg1
  have hs1 := hg1.size
  have HPS : Hid (∀ W, w1.grownBy W none → SeesN .i64 W Ao P) := Lib.hid fun W hW => SeesN.on ⟨hro.wide (Nat.zero_le _) (Nat.le_refl _), by have := HP4.out; omega⟩ hW
  have HCN : Hid (∀ W (q : Int), w1.grownBy W none → Calls Try.prog 97 #[.slice Ao P.length co, .int .i64 q] W fun e w' => e = .returned (.bool (decide (q ∈ P))) ∧ W.grownBy w' none) := Lib.hid fun W q hW => containsInt_any (HPS.out W hW)
  clear ho hg1 hro hco HPS HPO
  generalize P.length = pl at *
  go_wp2_with fail
  go_loopw [10, 20] (fun v i wr => ∃ (j : Nat) (LV : List (M.Item × Value)), j ≤ n ∧ i = .int .i64 j ∧ LV.map (·.1) = M.probed C (L.take j) m k.toNat ∧ wr.ownsRow w1.heap.size 54 3 v LV.length (cellsI LV) ∧ (∀ p ∈ LV, RdInts .i64 wr 0 w.heap.size p.2 p.1.pos) ∧ w1.grownBy wr none) (fun _ i _ => n - (intOf i).toNat)
  case atStart => exact ⟨0, [], Nat.zero_le _, rfl, HPD0.out.symm, World.ownsRow_made w1 #[] 0 (Nat.le_refl _) (by decide) rfl, by simp, gb_alloc (gb_refl _ _) _⟩
  case round =>
    obtain ⟨j, LV, hj, rfl, hLV, hO, hI, hg⟩ := hrel
    have HGR := Lib.hid hg
    have HGW := Lib.hid (gb_trans G1.out hg)
    have H1 := Lib.hid hLV
    have H2 := Lib.hid hO
    have H3 := Lib.hid hI
    have hlv : LV.length ≤ 16 := by
      have a1 := HPLE.out j
      rw [← hLV, List.length_map, List.length_take] at a1
      omega
    clear hLV hO hI hg
    by_cases hlt : j < n
    · have hkl : j < L.length := by rw [← HL.out]; exact hlt
      obtain ⟨b, o, rfl, hb1, hb2, hJ⟩ := HD.out.1.at_ (List.getElem?_eq_getElem hkl)
      obtain ⟨u, c0, c1, c2, hu⟩ := hJ.agree hb1 hb2 (fun b _ h => (Agree.of_grown HGW.out) b (Nat.zero_le _) (by omega))
      obtain ⟨Au, cu, rfl, hcu, hru⟩ := hu
      have HK := Lib.hid (HPD.out j hkl)
      have hvy := HVV.out _ (List.getElem_mem hkl)
      have hsz : w.heap.size ≤ wr.heap.size := HGW.out.size
      have hsz1 : w1.heap.size ≤ wr.heap.size := HGR.out.size
      have HU := Lib.hid (show RdInts .i64 wr 0 w.heap.size (.slice Au L[j].pos.length cu) L[j].pos from ⟨_, _, rfl, hcu, hru⟩)
      have HC1 : Hid (∀ W, wr.grownBy W none → Calls Try.prog 68 #[.slice A0 C.length c, .slice Au L[j].pos.length cu] W fun e w' => e = .returned (.int .i64 (M.centre C L[j].pos : Nat)) ∧ W.grownBy w' none) := Lib.hid fun W hW =>
        HCO.out W Au cu L[j] (gb_trans HGW.out hW) hvy ⟨(hru.keep hW hsz).wide (Nat.zero_le _) (by have := hW.size; omega), by rw [(M.isVec_of hvy).2]; omega⟩
      have kn : (j : Int) < n := by omega
      have k0 : (0 : Int) ≤ j := by omega
      clear hJ hcu hru hvy
      generalize M.centre C L[j].pos = q at *
      generalize L[j] = y at *
      go_wp2_with fail
      refine (HC1.out _ (gb_alloc (gb_refl _ _) _)).mono ?_
      rintro e w3 ⟨rfl, hg3⟩
      have S3 := Lib.hid hg3
      clear hg3
      go_wp2_with fail
      refine (HCN.out w3 q (gb_trans HGR.out (gb_trans (gb_alloc (gb_refl _ _) _) S3.out))).mono ?_
      rintro e w5 ⟨rfl, hg5⟩
      have S5 := Lib.hid (gb_trans S3.out hg5)
      have S5' : Hid (wr.grownBy w5 none) := Lib.hid (gb_trans (gb_alloc (gb_refl _ _) _) S5.out)
      have x0 : w5.cell? ⟨wr.heap.size, 0, none⟩ = some (.int .i64 y.key) := S5.out.cell (three_cell_at rfl 0 _ rfl) (by simp)
      have x1 : w5.cell? ⟨wr.heap.size, 1, none⟩ = some (.slice Au y.pos.length cu) := S5.out.cell (three_cell_at rfl 1 _ rfl) (by simp)
      have x2 : w5.cell? ⟨wr.heap.size, 2, none⟩ = some (.int .i64 y.tags) := S5.out.cell (three_cell_at rfl 2 _ rfl) (by simp)
      have O5 := Lib.hid (H2.out.kept S5'.out (own_ge H2.out (by simp)))
      have hsz5 := S5'.out.size
      clear hg5 c0 c1 c2
      by_cases hq : (q : Int) ∈ P
      · have HK2 : Hid (M.probed C (L.take (j + 1)) m k.toNat = LV.map (·.1) ++ [y]) := Lib.hid (HK.out.trans (by rw [if_pos hq, H1.out]))
        rw [decide_eq_true hq]
        clear hq
        go_wp2_with (at_builtin; refine wpList_append_own _ rfl (.tmp 30) (.tmp 32) 27 rfl w1.heap.size 54 i0 _ 3 40 Try.underlying27 hi0 hz0 hz1 hz2 rfl (by decide) u10 LV.length (cellsI LV) rfl (O5.out.alloc _) ⟨w5.heap.size, 0, none⟩ 1 1 [.int .i64 y.key, .slice Au y.pos.length cu, .int .i64 y.tags] rfl rfl (three_cell_at (by simp)) item_oneCell (by unfold maxLen; omega) (by omega) (by simp; omega) ?_; intro v' w4 hown' hgrow _; have T1 := Lib.hid hown'; have T2 := Lib.hid hgrow; clear hown' hgrow)
        go_roundw
        case rel =>
          refine ⟨j + 1, LV ++ [(y, .slice Au y.pos.length cu)], by omega, by go_num, by rw [HK2.out]; simp, ?_, ?_, ?_⟩
          · rw [cellsI_append, cellsI_one]
            have := T1.out
            simpa using this
          · intro p hp
            have hpr : RdInts .i64 wr 0 w.heap.size p.2 p.1.pos := by
              rw [List.mem_append] at hp
              rcases hp with hp | hp
              · exact H3.out p hp
              · simp at hp; subst hp; exact HU.out
            refine hpr.agree (fun b h1 h2 => (T2.out.block b (by simp; omega) (fun e => ?_)).trans ((Agree.of_grown (gb_alloc S5'.out _)) b (Nat.zero_le _) (by omega)))
            have := (O5.out.lt b e.symm).1
            omega
          · exact gb_new (gb_alloc (gb_trans HGR.out S5'.out) _) T2.out (fun g hg => .inl (O5.out.lt g hg).1)
        case measure => simp [intOf]; omega
      · have HK2 : Hid (M.probed C (L.take (j + 1)) m k.toNat = M.probed C (L.take j) m k.toNat) := Lib.hid (HK.out.trans (by rw [if_neg hq, List.append_nil]))
        rw [decide_eq_false hq]
        clear hq
        go_wp2_with fail
        go_roundw
        case rel => exact ⟨j + 1, LV, by omega, by go_num, by rw [HK2.out]; exact H1.out, O5.out, fun p hp => (H3.out p hp).agree (fun b _ h => (Agree.of_grown S5'.out) b (Nat.zero_le _) (by omega)), gb_trans HGR.out S5'.out⟩
        case measure => simp [intOf]; omega
    · obtain rfl : j = n := by omega
      go_wp2_with fail
      go_ret
      refine ⟨_, rfl, ?_, HGW.out⟩
      have h := H1.out
      rw [HPE.out] at h
      rw [← h]
      exact semi_rd H2.out H3.out HGW.out.size
end Go.Proofs.Ytamaoljjoghajaa

namespace Go.Proofs.Ytamaoljjoghajaa
open Go.RowKit
set_option linter.unusedVariables false
set_option linter.unusedSimpArgs false
set_option maxRecDepth 100000
theorem probed_small {L : List M.Item} (h : Small L) (C : List (List Int)) (m : List Int) (k : Nat) : Small (M.probed C L m k) := h.filter _
theorem ProbeNearest_impl {w : World} {A0 A B : Option Addr} {c ci d : Nat} {C : List (List Int)} {L : List M.Item} {m : List Int} {many k : Int} (DC : SeesV w A0 C) (D : SeesI w A L) (E : SeesN .i64 w B m) :
    Calls Try.prog 26 #[.slice A0 C.length c, .slice A L.length ci, .slice B m.length d, .int .i64 many, .int .i64 k] w (HitsMade w (M.ProbeNearest C L m many k)) := by
  have HA := Lib.hid (areVectors_any (c := c) DC)
  have HCF := Lib.hid (fun W (hW : w.grownBy W none) => canFind_any (c := ci) (d := d) (kind := 3) (k := k) (D.on hW) (E.on hW))
  have HX : Hid (M.ProbeNearest C L m many k = if (M.areVecs C && M.inR many 1 4 && M.canFind L 3 m k) = true then M.nearest (M.probed C L m many.toNat) 3 m k.toNat else []) := Lib.hid rfl
  have D := Lib.hid D
  have DC := Lib.hid DC
  have E := Lib.hid E
  cases ha : M.areVecs C
  · rw [ha] at HA HX
    have HQ : Hid (M.ProbeNearest C L m many k = []) := Lib.hid (by rw [HX.out]; simp)
    rw [HQ.out]
    clear ha HX HQ
    go_enter Try.func26, Try.ntmps26
    go_wp2_with fail
    refine HA.out.mono ?_
    rintro e w1 ⟨rfl, hg⟩
    have G1 := Lib.hid hg
    clear hg
    go_wp2_with fail
    go_ret
    exact hitsMade_nil rfl G1.out
  · rw [ha] at HA HX
    by_cases h1 : many < 1
    · have HQ : Hid (M.ProbeNearest C L m many k = []) := Lib.hid (by rw [HX.out, M.inR_not (by omega)]; simp)
      rw [HQ.out]
      clear ha HX HQ
      go_enter Try.func26, Try.ntmps26
      go_wp2_with fail
      refine HA.out.mono ?_
      rintro e w1 ⟨rfl, hg⟩
      have G1 := Lib.hid hg
      clear hg
      go_wp2_with fail
      go_ret
      exact hitsMade_nil rfl G1.out
    by_cases h2 : many > 4
    · have HQ : Hid (M.ProbeNearest C L m many k = []) := Lib.hid (by rw [HX.out, M.inR_not (by omega)]; simp)
      rw [HQ.out]
      clear ha HX HQ
      go_enter Try.func26, Try.ntmps26
      go_wp2_with fail
      refine HA.out.mono ?_
      rintro e w1 ⟨rfl, hg⟩
      have G1 := Lib.hid hg
      clear hg
      go_wp2_with fail
      go_ret
      exact hitsMade_nil rfl G1.out
    have hin : M.inR many 1 4 = true := M.inR_of (by omega) (by omega)
    rw [hin] at HX
    cases hf : M.canFind L 3 m k
    · rw [hf] at HCF HX
      have HQ : Hid (M.ProbeNearest C L m many k = []) := Lib.hid (by rw [HX.out]; simp)
      rw [HQ.out]
      clear ha HX HQ hf hin
      go_enter Try.func26, Try.ntmps26
      go_wp2_with fail
      refine HA.out.mono ?_
      rintro e w1 ⟨rfl, hg⟩
      have G1 := Lib.hid hg
      clear hg
      go_wp2_with fail
      refine (HCF.out _ G1.out).mono ?_
      rintro e w2 ⟨rfl, hg⟩
      have G1 := Lib.hid (gb_trans G1.out hg)
      clear hg
      go_wp2_with fail
      go_ret
      exact hitsMade_nil rfl G1.out
    · rw [hf] at HCF HX
      obtain ⟨g1, g2, g3, g4, g5⟩ := M.canFind_of hf
      have HQ : Hid (M.ProbeNearest C L m many k = M.nearest (M.probed C L m many.toNat) 3 m k.toNat) := Lib.hid (by rw [HX.out]; simp)
      rw [HQ.out]
      have HP : Hid (∀ W, w.grownBy W none → Calls Try.prog 59 #[.slice A0 C.length c, .slice A L.length ci, .slice B m.length d, .int .i64 many] W fun e w' => ∃ v, e = .returned v ∧ RdItems w' 0 w'.heap.size v (M.probed C L m many.toNat) ∧ W.grownBy w' none) := Lib.hid fun W hW =>
        probed_impl (DC.out.on hW) (D.out.on hW) (E.out.on hW) ha g1 g3 (by omega) (by omega)
      have HN : Hid (∀ W A' c', w.grownBy W none → RdI W 0 W.heap.size A' (M.probed C L m many.toNat) → Calls Try.prog 43 #[.slice A' (M.probed C L m many.toNat).length c', .int .i64 3, .slice B m.length d, .int .i64 k] W (HitsMade W (M.nearest (M.probed C L m many.toNat) 3 m k.toNat))) := Lib.hid fun W A' c' hW hr =>
        nearest_impl (Nat.le_trans (probed_le _ _ _ _) (M.validStore_of g1).1) (fun x hx => vecs_ofR g1 x (probed_mem hx)) hr (Nat.le_refl _) (E.out.on hW) g3 g4 g5
      clear ha HX HQ hf hin g1 g2 g3 DC D E
      generalize M.nearest (M.probed C L m many.toNat) 3 m k.toNat = r at *
      generalize M.probed C L m many.toNat = pr at *
      go_enter Try.func26, Try.ntmps26
      go_wp2_with fail
      refine HA.out.mono ?_
      rintro e w1 ⟨rfl, hg⟩
      have G1 := Lib.hid hg
      clear hg
      go_wp2_with fail
      refine (HCF.out _ G1.out).mono ?_
      rintro e w2 ⟨rfl, hg⟩
      have G2 := Lib.hid (gb_trans G1.out hg)
      clear hg
      go_wp2_with fail
      refine (HP.out _ G2.out).mono ?_
      rintro e w3 ⟨v, rfl, ⟨A3, c3, rfl, hc3, hr3⟩, hg⟩
      have G3 := Lib.hid (gb_trans G2.out hg)
      have R3 := Lib.hid hr3
      clear hg hc3 hr3
      go_wp2_with fail
      refine (HN.out _ _ c3 G3.out R3.out).mono ?_
      rintro e w4 ⟨A4, c4, rfl, hc4, ho, hg⟩
      have H2 := Lib.hid (HitsMade.on ⟨A4, c4, rfl, hc4, ho, hg⟩ G3.out)
      clear hc4 ho hg
      go_wp2_with fail
      go_ret
      exact H2.out
end Go.Proofs.Ytamaoljjoghajaa

namespace Go.Proofs.Ytamaoljjoghajaa
open Go.RowKit
set_option linter.unusedVariables false
set_option linter.unusedSimpArgs false
set_option maxRecDepth 100000
set_option maxHeartbeats 4000000 in
theorem ProbeNearest_spec {w : World} {A0 A B : Option Addr} {c ci d : Nat} {C : List (List Int)} {L : List M.Item} {m : List Int} {many k : Int} (DC : SeesV w A0 C) (D : SeesI w A L) (E : SeesN .i64 w B m) :
    Calls Try.prog 27 #[.slice A0 C.length c, .slice A L.length ci, .slice B m.length d, .int .i64 many, .int .i64 k] w (HitsMade w (M.ProbeNearest C L m many k)) := by
  obtain ⟨i0, hi0, hz0, hz1, hz2⟩ := info_parts info_item'
  have HA := Lib.hid (validCentres_any (c := c) DC)
  have HQY := Lib.hid (fun W (hW : w.grownBy W none) => validQuery_any (c := ci) (d := d) (kind := 3) (D.on hW) (E.on hW))
  have HX : Hid (M.ProbeNearest C L m many k = if (M.areVecs C && M.inR many 1 4 && ((M.validStore L && (M.inR 3 1 4 && M.isVec m)) && M.inR k 1 16)) = true then M.nearest (M.probed C L m many.toNat) 3 m k.toNat else []) := Lib.hid (by rw [← canFind_and]; rfl)
  have HRM := Lib.hid (fun W => inRange_any many 1 4 W)
  have HRK := Lib.hid (fun W => inRange_any k 1 16 W)
  have D := Lib.hid D
  have DC := Lib.hid DC
  have E := Lib.hid E
  cases ha : M.areVecs C
  · rw [ha] at HA HX
    have HQ : Hid (M.ProbeNearest C L m many k = []) := Lib.hid (by rw [HX.out]; simp)
    rw [HQ.out]
    clear ha HX HQ
    go_enter Try.func27, Try.ntmps27
    go_wp2_with fail
    refine HA.out.mono ?_
    rintro e w1 ⟨rfl, hg⟩
    have G1 := Lib.hid hg
    clear hg
    go_wp2_with fail
    go_ret
    exact hitsMade_nil rfl G1.out
  rw [ha] at HA HX
  cases hq : (M.validStore L && (M.inR 3 1 4 && M.isVec m))
  · rw [hq] at HQY HX
    have HQ : Hid (M.ProbeNearest C L m many k = []) := Lib.hid (by rw [HX.out]; simp)
    rw [HQ.out]
    clear ha hq HX HQ
    go_enter Try.func27, Try.ntmps27
    go_wp2_with fail
    refine HA.out.mono ?_
    rintro e w1 ⟨rfl, hg⟩
    have G1 := Lib.hid hg
    clear hg
    go_wp2_with fail
    refine (HQY.out _ G1.out).mono ?_
    rintro e w2 ⟨rfl, hg⟩
    have G1 := Lib.hid (gb_trans G1.out hg)
    clear hg
    go_wp2_with fail
    go_ret
    exact hitsMade_nil rfl G1.out
  have hq1 : M.validStore L = true ∧ M.inR 3 1 4 = true ∧ M.isVec m = true := by simpa [Bool.and_eq_true] using hq
  rw [hq] at HQY HX
  cases hmn : M.inR many 1 4
  · rw [hmn] at HRM HX
    have HQ : Hid (M.ProbeNearest C L m many k = []) := Lib.hid (by rw [HX.out]; simp)
    rw [HQ.out]
    clear ha hq HX HQ hmn hq1
    go_enter Try.func27, Try.ntmps27
    go_wp2_with fail
    refine HA.out.mono ?_
    rintro e w1 ⟨rfl, hg⟩
    have G1 := Lib.hid hg
    clear hg
    go_wp2_with fail
    refine (HQY.out _ G1.out).mono ?_
    rintro e w2 ⟨rfl, hg⟩
    have G1 := Lib.hid (gb_trans G1.out hg)
    clear hg
    go_wp2_with (first | (go_at_call_of 35 many; refine (HRM.out _).mono ?_; rintro e w' ⟨rfl, rfl⟩) | (go_at_call_of 35 k; refine (HRK.out _).mono ?_; rintro e w' ⟨rfl, rfl⟩))
    go_ret
    exact hitsMade_nil rfl G1.out
  have hmr := M.inR_true hmn
  rw [hmn] at HRM HX
  cases hk : M.inR k 1 16
  · rw [hk] at HRK HX
    have HQ : Hid (M.ProbeNearest C L m many k = []) := Lib.hid (by rw [HX.out]; simp)
    rw [HQ.out]
    clear ha hq HX HQ hmn hq1 hk
    go_enter Try.func27, Try.ntmps27
    go_wp2_with fail
    refine HA.out.mono ?_
    rintro e w1 ⟨rfl, hg⟩
    have G1 := Lib.hid hg
    clear hg
    go_wp2_with fail
    refine (HQY.out _ G1.out).mono ?_
    rintro e w2 ⟨rfl, hg⟩
    have G1 := Lib.hid (gb_trans G1.out hg)
    clear hg
    go_wp2_with (first | (go_at_call_of 35 many; refine (HRM.out _).mono ?_; rintro e w' ⟨rfl, rfl⟩) | (go_at_call_of 35 k; refine (HRK.out _).mono ?_; rintro e w' ⟨rfl, rfl⟩))
    go_ret
    exact hitsMade_nil rfl G1.out
  have hkr := M.inR_true hk
  rw [hk] at HRK HX
  have HQ : Hid (M.ProbeNearest C L m many k = M.nearest (M.probed C L m many.toNat) 3 m k.toNat) := Lib.hid (by rw [HX.out]; simp)
  rw [HQ.out]
  have HPR := Lib.hid (fun W (hW : w.grownBy W none) => probes_spec (c := c) (d := d) (DC.out.on hW) (E.out.on hW) ha hq1.2.2 (k := many) (by omega) (by omega))
  have HCO : Hid (∀ W Au cu (y : M.Item), w.grownBy W none → M.isVec y.pos = true → SeesN .i64 W Au y.pos → Calls Try.prog 63 #[.slice A0 C.length c, .slice Au y.pos.length cu] W fun e w' => e = .returned (.int .i64 (M.centre C y.pos : Nat)) ∧ W.grownBy w' none) := Lib.hid fun W Au cu y hW hy hs => centreOf_spec (DC.out.on hW) hs ha hy
  have HN : Hid (∀ W A' c', w.grownBy W none → RdI W 0 W.heap.size A' (M.probed C L m many.toNat) → Calls Try.prog 37 #[.slice A' (M.probed C L m many.toNat).length c', .int .i64 3, .slice B m.length d, .int .i64 k] W (HitsMade W (M.nearest (M.probed C L m many.toNat) 3 m k.toNat))) := Lib.hid fun W A' c' hW hr =>
    nearest_spec (Nat.le_trans (probed_le _ _ _ _) (M.validStore_of hq1.1).1) (fun x hx => vecs_ofR hq1.1 x (probed_mem hx)) hr (Nat.le_refl _) (E.out.on hW) hq1.2.2 (by omega) (by omega) hkr.1 hkr.2
  have HPD := Lib.hid (fun j (hj : j < L.length) => probed_take hj C m many.toNat)
  have HPD0 : Hid (M.probed C (L.take 0) m many.toNat = []) := Lib.hid (by simp [M.probed])
  have HPLE := Lib.hid (fun j => probed_le C (L.take j) m many.toNat)
  have HP4 := Lib.hid (probesL_le ha m many.toNat)
  have HVV := Lib.hid (vecs_ofR hq1.1)
  have hl16 := (M.validStore_of hq1.1).1
  obtain ⟨n, hn⟩ : ∃ n, n = L.length := ⟨_, rfl⟩
  have HL := Lib.hid hn
  have HPE : Hid (M.probed C (L.take n) m many.toNat = M.probed C L m many.toNat) := Lib.hid (by rw [List.take_of_length_le (by rw [hn]; exact Nat.le_refl _)])
  rw [← hn] at hl16 HQY ⊢
  generalize M.probesL C m many.toNat = P at *
  generalize M.nearest (M.probed C L m many.toNat) 3 m k.toNat = r at *
  clear hn ha hq HX HQ hmn hq1 hk hmr hkr
  go_enter Try.func27, Try.ntmps27
  go_wp2_with fail
  refine HA.out.mono ?_
  rintro e w1 ⟨rfl, hg⟩
  have G1 := Lib.hid hg
  clear hg
  go_wp2_with fail
  refine (HQY.out _ G1.out).mono ?_
  rintro e w2 ⟨rfl, hg⟩
  have G1 := Lib.hid (gb_trans G1.out hg)
  clear hg
  go_wp2_with (first | (go_at_call_of 35 many; refine (HRM.out _).mono ?_; rintro e w' ⟨rfl, rfl⟩) | (go_at_call_of 35 k; refine (HRK.out _).mono ?_; rintro e w' ⟨rfl, rfl⟩))
  refine (HPR.out _ G1.out).mono ?_
  rintro e w3 ⟨Ao, co, rfl, hco, hs3, hg⟩
  have GP := Lib.hid (gb_trans G1.out hg)
  have hsp := GP.out.size
  have HCN : Hid (∀ W (q : Int), w3.grownBy W none → Calls Try.prog 62 #[.slice Ao P.length co, .int .i64 q] W fun e w' => e = .returned (.bool (decide (q ∈ P))) ∧ W.grownBy w' none) := Lib.hid fun W q hW => isInSpec_any (hs3.on hW)
  clear hg hs3 hco HPR
  generalize P.length = pl at *
  go_wp2_with fail
  go_loopw [12, 13] (fun v i wr => ∃ (j : Nat) (LV : List (M.Item × Value)), j ≤ n ∧ i = .int .i64 j ∧ LV.map (·.1) = M.probed C (L.take j) m many.toNat ∧ wr.ownsRow w3.heap.size 54 3 v LV.length (cellsI LV) ∧ (∀ p ∈ LV, RdInts .i64 wr 0 w.heap.size p.2 p.1.pos) ∧ w3.grownBy wr none) (fun _ i _ => n - (intOf i).toNat)
  case atStart => exact ⟨0, [], Nat.zero_le _, rfl, HPD0.out.symm, World.ownsRow_made w3 #[] 0 (Nat.le_refl _) (by decide) rfl, by simp, gb_alloc (gb_refl _ _) _⟩
  case round =>
    obtain ⟨j, LV, hj, rfl, hLV, hO, hI, hg⟩ := hrel
    have HGR := Lib.hid hg
    have HGW := Lib.hid (gb_trans GP.out hg)
    have H1 := Lib.hid hLV
    have H2 := Lib.hid hO
    have H3 := Lib.hid hI
    have hlv : LV.length ≤ 16 := by
      have a1 := HPLE.out j
      rw [← hLV, List.length_map, List.length_take] at a1
      omega
    clear hLV hO hI hg
    by_cases hlt : j < n
    · have hkl : j < L.length := by rw [← HL.out]; exact hlt
      obtain ⟨b, o, rfl, hb1, hb2, hJ⟩ := D.out.1.at_ (List.getElem?_eq_getElem hkl)
      obtain ⟨u, c0, c1, c2, hu⟩ := hJ.agree hb1 hb2 (fun b _ h => (Agree.of_grown HGW.out) b (Nat.zero_le _) (by omega))
      obtain ⟨Au, cu, rfl, hcu, hru⟩ := hu
      have HK := Lib.hid (HPD.out j hkl)
      have hvy := HVV.out _ (List.getElem_mem hkl)
      have hsz : w.heap.size ≤ wr.heap.size := HGW.out.size
      have hsz1 : w3.heap.size ≤ wr.heap.size := HGR.out.size
      have HU := Lib.hid (show RdInts .i64 wr 0 w.heap.size (.slice Au L[j].pos.length cu) L[j].pos from ⟨_, _, rfl, hcu, hru⟩)
      have HC1 : Hid (∀ W, wr.grownBy W none → Calls Try.prog 63 #[.slice A0 C.length c, .slice Au L[j].pos.length cu] W fun e w' => e = .returned (.int .i64 (M.centre C L[j].pos : Nat)) ∧ W.grownBy w' none) := Lib.hid fun W hW =>
        HCO.out W Au cu L[j] (gb_trans HGW.out hW) hvy ⟨(hru.keep hW hsz).wide (Nat.zero_le _) (by have := hW.size; omega), by rw [(M.isVec_of hvy).2]; omega⟩
      have kn : (j : Int) < n := by omega
      have k0 : (0 : Int) ≤ j := by omega
      clear hJ hcu hru hvy
      generalize M.centre C L[j].pos = q at *
      generalize L[j] = y at *
      go_wp2_with fail
      refine (HC1.out _ (gb_refl _ _)).mono ?_
      rintro e w4 ⟨rfl, hg3⟩
      have S3 := Lib.hid hg3
      clear hg3
      go_wp2_with fail
      refine (HCN.out w4 q (gb_trans HGR.out S3.out)).mono ?_
      rintro e w5 ⟨rfl, hg5⟩
      have S5 := Lib.hid (gb_trans S3.out hg5)
      have x0 : w5.cell? ⟨b, o + j * 3, none⟩ = some (.int .i64 y.key) := S5.out.cell c0 (by simp)
      have x1 : w5.cell? ⟨b, o + j * 3 + 1, none⟩ = some (.slice Au y.pos.length cu) := S5.out.cell c1 (by simp)
      have x2 : w5.cell? ⟨b, o + j * 3 + 2, none⟩ = some (.int .i64 y.tags) := S5.out.cell c2 (by simp)
      have O5 := Lib.hid (H2.out.kept S5.out (own_ge H2.out (by simp)))
      have hsz5 := S5.out.size
      clear hg5 c0 c1 c2
      by_cases hq : (q : Int) ∈ P
      · have HK2 : Hid (M.probed C (L.take (j + 1)) m many.toNat = LV.map (·.1) ++ [y]) := Lib.hid (HK.out.trans (by rw [if_pos hq, H1.out]))
        rw [decide_eq_true hq]
        clear hq
        go_wp2_with (at_builtin; refine wpList_append_own _ rfl (.tmp 53) (.tmp 58) 27 rfl w3.heap.size 54 i0 _ 3 40 Try.underlying27 hi0 hz0 hz1 hz2 rfl (by decide) u12 LV.length (cellsI LV) rfl (O5.out.alloc _) ⟨w5.heap.size, 0, none⟩ 1 1 [.int .i64 y.key, .slice Au y.pos.length cu, .int .i64 y.tags] rfl rfl (three_cell_at (by simp)) item_oneCell (by unfold maxLen; omega) (by omega) (by simp; omega) ?_; intro v' w6 hown' hgrow _; have T1 := Lib.hid hown'; have T2 := Lib.hid hgrow; clear hown' hgrow)
        go_roundw
        case rel =>
          refine ⟨j + 1, LV ++ [(y, .slice Au y.pos.length cu)], by omega, by go_num, by rw [HK2.out]; simp, ?_, ?_, ?_⟩
          · rw [cellsI_append, cellsI_one]
            have := T1.out
            simpa using this
          · intro p hp
            have hpr : RdInts .i64 wr 0 w.heap.size p.2 p.1.pos := by
              rw [List.mem_append] at hp
              rcases hp with hp | hp
              · exact H3.out p hp
              · simp at hp; subst hp; exact HU.out
            refine hpr.agree (fun b h1 h2 => (T2.out.block b (by simp; omega) (fun e => ?_)).trans ((Agree.of_grown (gb_alloc S5.out _)) b (Nat.zero_le _) (by omega)))
            have := (O5.out.lt b e.symm).1
            omega
          · exact gb_new (gb_alloc (gb_trans HGR.out S5.out) _) T2.out (fun g hg => .inl (O5.out.lt g hg).1)
        case measure => simp [intOf]; omega
      · have HK2 : Hid (M.probed C (L.take (j + 1)) m many.toNat = M.probed C (L.take j) m many.toNat) := Lib.hid (HK.out.trans (by rw [if_neg hq, List.append_nil]))
        rw [decide_eq_false hq]
        clear hq
        go_wp2_with fail
        go_roundw
        case rel => exact ⟨j + 1, LV, by omega, by go_num, by rw [HK2.out]; exact H1.out, O5.out, fun p hp => (H3.out p hp).agree (fun b _ h => (Agree.of_grown S5.out) b (Nat.zero_le _) (by omega)), gb_trans HGR.out S5.out⟩
        case measure => simp [intOf]; omega
    · obtain rfl : j = n := by omega
      have h := H1.out
      rw [HPE.out] at h
      have HSR := Lib.hid (semi_rd H2.out H3.out HGW.out.size)
      rw [h] at HSR
      clear h
      generalize M.probed C L m many.toNat = pr at *
      obtain ⟨A7, c7, rfl, hc7, hr7⟩ := HSR.out
      have HNN := Lib.hid (HN.out wr A7 c7 HGW.out hr7)
      clear hr7 HN
      go_wp2_with fail
      refine HNN.out.mono ?_
      rintro e w8 ⟨A8, c8, rfl, hc8, ho, hg⟩
      have H8 := Lib.hid (HitsMade.on ⟨A8, c8, rfl, hc8, ho, hg⟩ HGW.out)
      clear hc8 ho hg
      go_wp2_with fail
      go_ret
      exact H8.out
end Go.Proofs.Ytamaoljjoghajaa

namespace Go.Proofs.Ytamaoljjoghajaa
open Go.RowKit
set_option linter.unusedVariables false
set_option linter.unusedSimpArgs false
set_option maxRecDepth 100000
namespace M
def ProbeOrder (C : List (List Int)) (m : List Int) (many : Int) : List Int := if (areVecs C && isVec m && inR many 1 4) = true then probesL C m many.toNat else []
end M
theorem gotN_nil {w w' : World} {l : List Int} (hl : l = []) (h : w.grownBy w' none) : GotN .i64 w l (.returned (.slice none 0 0)) w' := by
  subst hl
  exact ⟨none, 0, rfl, Nat.le_refl _, ⟨Rd.nil_ _ _ _ _, Nat.zero_le _⟩, h⟩
theorem isVecI_any {w : World} {B : Option Addr} {d : Nat} {m : List Int} (E : SeesN .i64 w B m) : Calls Try.prog 64 #[.slice B m.length d, .int .i64 4] w fun e w' => e = .returned (.bool (M.isVec m)) ∧ w = w' :=
  isVector_impl w B d 0 w.heap.size m (by have := E.2; omega) E.1
theorem ProbeOrder_impl {w : World} {A0 B : Option Addr} {c d : Nat} {C : List (List Int)} {m : List Int} {many : Int} (DC : SeesV w A0 C) (E : SeesN .i64 w B m) :
    Calls Try.prog 28 #[.slice A0 C.length c, .slice B m.length d, .int .i64 many] w (GotN .i64 w (M.ProbeOrder C m many)) := by
  have HA := Lib.hid (areVectors_any (c := c) DC)
  have HV := Lib.hid (fun W (hW : w.grownBy W none) => isVecI_any (d := d) (E.on hW))
  have HX : Hid (M.ProbeOrder C m many = if (M.areVecs C && M.isVec m && M.inR many 1 4) = true then M.probesL C m many.toNat else []) := Lib.hid rfl
  have DC := Lib.hid DC
  have E := Lib.hid E
  cases ha : M.areVecs C
  · rw [ha] at HA HX
    have HQ : Hid (M.ProbeOrder C m many = []) := Lib.hid (by rw [HX.out]; simp)
    clear ha HX
    go_enter Try.func28, Try.ntmps28
    go_wp2_with fail
    refine HA.out.mono ?_
    rintro e w1 ⟨rfl, hg⟩
    have G1 := Lib.hid hg
    clear hg
    go_wp2_with fail
    go_ret
    exact gotN_nil HQ.out G1.out
  rw [ha] at HA HX
  cases hv : M.isVec m
  · rw [hv] at HV HX
    have HQ : Hid (M.ProbeOrder C m many = []) := Lib.hid (by rw [HX.out]; simp)
    clear ha hv HX
    go_enter Try.func28, Try.ntmps28
    go_wp2_with fail
    refine HA.out.mono ?_
    rintro e w1 ⟨rfl, hg⟩
    have G1 := Lib.hid hg
    clear hg
    go_wp2_with (go_at_call 64; refine (HV.out _ G1.out).mono ?_; rintro e w' ⟨rfl, rfl⟩)
    go_ret
    exact gotN_nil HQ.out G1.out
  rw [hv] at HV HX
  by_cases h1 : many < 1
  · have HQ : Hid (M.ProbeOrder C m many = []) := Lib.hid (by rw [HX.out, M.inR_not (by omega)]; simp)
    clear ha hv HX
    go_enter Try.func28, Try.ntmps28
    go_wp2_with fail
    refine HA.out.mono ?_
    rintro e w1 ⟨rfl, hg⟩
    have G1 := Lib.hid hg
    clear hg
    go_wp2_with (go_at_call 64; refine (HV.out _ G1.out).mono ?_; rintro e w' ⟨rfl, rfl⟩)
    go_ret
    exact gotN_nil HQ.out G1.out
  by_cases h2 : many > 4
  · have HQ : Hid (M.ProbeOrder C m many = []) := Lib.hid (by rw [HX.out, M.inR_not (by omega)]; simp)
    clear ha hv HX
    go_enter Try.func28, Try.ntmps28
    go_wp2_with fail
    refine HA.out.mono ?_
    rintro e w1 ⟨rfl, hg⟩
    have G1 := Lib.hid hg
    clear hg
    go_wp2_with (go_at_call 64; refine (HV.out _ G1.out).mono ?_; rintro e w' ⟨rfl, rfl⟩)
    go_ret
    exact gotN_nil HQ.out G1.out
  have HQ : Hid (M.ProbeOrder C m many = M.probesL C m many.toNat) := Lib.hid (by rw [HX.out, M.inR_of (by omega) (by omega)]; simp)
  have HP := Lib.hid (fun W (hW : w.grownBy W none) => probeOrder_any (c := c) (d := d) (k := many) (Nat.le_refl _) (DC.out.on hW).1 (E.out.on hW).1 ha hv (by omega) (by omega))
  have HPL := Lib.hid (probesL_le ha m many.toNat)
  rw [HQ.out]
  clear ha hv HX HQ
  generalize M.probesL C m many.toNat = P at *
  go_enter Try.func28, Try.ntmps28
  go_wp2_with fail
  refine HA.out.mono ?_
  rintro e w1 ⟨rfl, hg⟩
  have G1 := Lib.hid hg
  clear hg
  go_wp2_with (go_at_call 64; refine (HV.out _ G1.out).mono ?_; rintro e w' ⟨rfl, rfl⟩)
  refine (HP.out _ G1.out).mono ?_
  rintro e w3 ⟨v, rfl, ho, hg⟩
  have G3 := Lib.hid (gb_trans G1.out hg)
  have O3 := Lib.hid ho
  clear hg ho
  go_wp2_with fail
  go_ret
  exact gotN_own (t := 3) (by have := HPL.out; omega) ⟨_, rfl, O3.out, G3.out⟩
theorem CentreOf_impl {w : World} {A B : Option Addr} {c d : Nat} {C : List (List Int)} {m : List Int} (D : SeesV w A C) (E : SeesN .i64 w B m) (hC : M.areVecs C = true) (hm : M.isVec m = true) :
    Calls Try.prog 31 #[.slice A C.length c, .slice B m.length d] w fun e w' => e = .returned (.int .i64 (M.centre C m : Nat)) ∧ w.grownBy w' none := by
  have HA := Lib.hid (areVectors_any (c := c) D)
  have HV := Lib.hid (fun W (hW : w.grownBy W none) => isVecI_any (d := d) (E.on hW))
  have HCO := Lib.hid (fun W (hW : w.grownBy W none) => centreOf_impl (c := c) (d := d) (D.on hW) (E.on hW) hC hm)
  rw [hC] at HA
  rw [hm] at HV
  generalize C.length = n at *
  generalize m.length = k at *
  generalize M.centre C m = r at *
  clear D E hC hm
  go_enter Try.func31, Try.ntmps31
  go_wp2_with fail
  refine HA.out.mono ?_
  rintro e w1 ⟨rfl, hg⟩
  have G1 := Lib.hid hg
  clear hg
  go_wp2_with (go_at_call 64; refine (HV.out _ G1.out).mono ?_; rintro e w' ⟨rfl, rfl⟩)
  refine (HCO.out _ G1.out).mono ?_
  rintro e w3 ⟨rfl, hg⟩
  have G3 := Lib.hid (gb_trans G1.out hg)
  clear hg
  go_wp2_with fail
  go_ret
  exact ⟨rfl, G3.out⟩
theorem Distance_impl {w : World} {A B : Option Addr} {c d : Nat} {l m : List Int} (D : SeesN .i64 w A l) (E : SeesN .i64 w B m) (hl : M.isVec l = true) (hm : M.isVec m = true) :
    Calls Try.prog 30 #[.int .i64 3, .slice A l.length c, .slice B m.length d] w fun e w' => e = .returned (.int .i64 (M.dist 3 l m)) ∧ w.grownBy w' none := by
  have HK := Lib.hid (fun W => isKind_any 3 W)
  have HV1 := Lib.hid (isVecI_any (d := c) D)
  have HV2 := Lib.hid (isVecI_any (d := d) E)
  have HD := Lib.hid (distance_any (c := c) (d := d) (kind := 3) hl hm D.1 E.1)
  rw [hl] at HV1
  rw [hm] at HV2
  generalize hln : l.length = ln at *
  generalize hmn : m.length = mn at *
  generalize M.dist 3 l m = r at *
  clear D E hl hm hln hmn
  go_enter Try.func30, Try.ntmps30
  go_wp2_with (first | (go_at_call 66; refine (HK.out _).mono ?_; rintro e w' ⟨rfl, rfl⟩) | (go_at_call_of 64 A; refine HV1.out.mono ?_; rintro e w' ⟨rfl, rfl⟩) | (go_at_call_of 64 B; refine HV2.out.mono ?_; rintro e w' ⟨rfl, rfl⟩))
  refine HD.out.mono ?_
  rintro e w3 ⟨rfl, hg⟩
  have G3 := Lib.hid hg
  clear hg
  go_wp2_with fail
  go_ret
  exact ⟨rfl, G3.out⟩
end Go.Proofs.Ytamaoljjoghajaa
