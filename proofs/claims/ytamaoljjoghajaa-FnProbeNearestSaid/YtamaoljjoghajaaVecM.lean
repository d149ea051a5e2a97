/- Words and walks of the probes: look-ups of a number; the reference's nearest centres. -/
import Derived.Test.YtamaoljjoghajaaVecO
import Derived.Test.YtamaoljjoghajaaSee
namespace Go.Proofs.Ytamaoljjoghajaa
open Go.RowKit
set_option linter.unusedVariables false
set_option linter.unusedSimpArgs false
set_option maxRecDepth 100000
namespace M
/-- the items of the nearest centres -/
def probed (C : List (List Int)) (L : List Item) (m : List Int) (k : Nat) : List Item := L.filter fun x => decide ((centre C x.pos : Int) ∈ probesL C m k)
def probeOk (C : List (List Int)) (L : List Item) (m : List Int) (many k : Int) : Bool := areVecs C && inR many 1 4 && canFind L 3 m k
def ProbeNearest (C : List (List Int)) (L : List Item) (m : List Int) (many k : Int) : List Hit := if probeOk C L m many k = true then nearest (probed C L m many.toNat) 3 m k.toNat else []
end M
theorem probed_take {L : List M.Item} {j : Nat} (hj : j < L.length) (C : List (List Int)) (m : List Int) (k : Nat) : M.probed C (L.take (j + 1)) m k = M.probed C (L.take j) m k ++ (if (M.centre C L[j].pos : Int) ∈ M.probesL C m k then [L[j]] else []) := by
  unfold M.probed
  rw [List.take_succ_eq_append_getElem hj, List.filter_append]
  congr 1
  by_cases h : (M.centre C L[j].pos : Int) ∈ M.probesL C m k
  · rw [if_pos h]; simp [h]
  · rw [if_neg h]; simp [h]
theorem probed_le (C : List (List Int)) (L : List M.Item) (m : List Int) (k : Nat) : (M.probed C L m k).length ≤ L.length := List.length_filter_le _ _
theorem probed_mem {C : List (List Int)} {L : List M.Item} {m : List Int} {k : Nat} {x : M.Item} (h : x ∈ M.probed C L m k) : x ∈ L := (List.mem_filter.1 h).1
theorem probesL_le {C : List (List Int)} (hC : M.areVecs C = true) (m : List Int) (k : Nat) : (M.probesL C m k).length ≤ 4 := by
  rw [M.probesL_len]; have := (M.areVecs_of hC).2.2; omega
theorem isInSpec_any {w : World} {A : Option Addr} {c : Nat} {l : List Int} {n : Int} (D : SeesN .i64 w A l) : Calls Try.prog 62 #[.slice A l.length c, .int .i64 n] w fun e w' => e = .returned (.bool (decide (n ∈ l))) ∧ w.grownBy w' none := by
  obtain ⟨hr, hl⟩ := D
  obtain ⟨L, hL⟩ : ∃ L, L = l.length := ⟨_, rfl⟩
  rw [← hL] at hl ⊢
  have HL := Lib.hid hL
  have HR := Lib.hid hr
  clear hL hr
  go_enter Try.func62, Try.ntmps62
  go_wp2_with fail
  go_loopw [5] (fun i wr => ∃ k : Nat, k ≤ L ∧ i = .int .i64 k ∧ n ∉ l.take k ∧ w.grownBy wr none) (fun i _ => L - (intOf i).toNat)
  case atStart => exact ⟨0, Nat.zero_le _, rfl, by simp, gb_refl _ _⟩
  case round =>
    obtain ⟨k, hk, rfl, ha, hg⟩ := hrel
    have HA := Lib.hid ha
    have HG := Lib.hid hg
    clear ha hg
    by_cases hlt : k < L
    · have hkl : k < l.length := by rw [← HL.out]; exact hlt
      obtain ⟨b, o, rfl, _, hb, hc'⟩ := HR.out.at_ (j := k) (u := .int .i64 l[k]) (by simp [hkl])
      have hc : wr.cell? ⟨b, o + k, none⟩ = some (.int .i64 l[k]) := ((Agree.of_grown HG.out).cell (p := ⟨b, o + k, none⟩) (Nat.zero_le _) hb).trans hc'
      clear hc'
      by_cases hx : l[k] = n
      · have HD : Hid (decide (n ∈ l) = true) := Lib.hid (decide_eq_true (by rw [← hx]; exact List.getElem_mem hkl))
        have t1 : (l[k] == n) = true := beq_iff_eq.2 hx
        clear hx
        generalize l[k] = y at *
        go_wp2_with fail
        go_ret
        exact ⟨ret_bool HD.out.symm, HG.out⟩
      · have HN : Hid (n ∉ l.take (k + 1)) := Lib.hid (by
          rw [List.take_succ_eq_append_getElem hkl, List.mem_append]
          rintro (h | h)
          · exact HA.out h
          · rw [List.mem_singleton] at h; exact hx h.symm)
        have t1 : (l[k] == n) = false := beq_eq_false_iff_ne.2 hx
        clear hx
        generalize l[k] = y at *
        go_wp2_with fail
        go_roundw
        case rel => exact ⟨k + 1, by omega, by go_num, HN.out, HG.out⟩
        case measure => simp [intOf]; omega
    · obtain rfl : k = L := by omega
      have HD : Hid (decide (n ∈ l) = false) := Lib.hid (decide_eq_false (fun h => HA.out (by rw [List.take_of_length_le (by rw [← HL.out]; exact Nat.le_refl _)]; exact h)))
      go_wp2_with fail
      go_ret
      exact ⟨ret_bool HD.out.symm, HG.out⟩
theorem indexInt_any {w : World} {A : Option Addr} {c : Nat} {l : List Int} {n : Int} (D : SeesN .i64 w A l) : Calls Try.prog 117 #[.slice A l.length c, .int .i64 n] w fun e w' => ∃ r : Int, e = .returned (.int .i64 r) ∧ decide (r ≥ 0) = decide (n ∈ l) ∧ w.grownBy w' none := by
  obtain ⟨hr, hl⟩ := D
  obtain ⟨L, hL⟩ : ∃ L, L = l.length := ⟨_, rfl⟩
  rw [← hL] at hl ⊢
  have HL := Lib.hid hL
  have HR := Lib.hid hr
  clear hL hr
  go_enter Try.func117, Try.ntmps117
  go_wp2_with fail
  go_loopw [8] (fun i wr => ∃ k : Nat, k ≤ L ∧ i = .int .i64 k ∧ n ∉ l.take k ∧ w.grownBy wr none) (fun i _ => L - (intOf i).toNat)
  case atStart => exact ⟨0, Nat.zero_le _, rfl, by simp, gb_refl _ _⟩
  case round =>
    obtain ⟨k, hk, rfl, ha, hg⟩ := hrel
    have HA := Lib.hid ha
    have HG := Lib.hid hg
    clear ha hg
    by_cases hlt : k < L
    · have hkl : k < l.length := by rw [← HL.out]; exact hlt
      obtain ⟨b, o, rfl, _, hb, hc'⟩ := HR.out.at_ (j := k) (u := .int .i64 l[k]) (by simp [hkl])
      have hc : wr.cell? ⟨b, o + k, none⟩ = some (.int .i64 l[k]) := ((Agree.of_grown HG.out).cell (p := ⟨b, o + k, none⟩) (Nat.zero_le _) hb).trans hc'
      clear hc'
      by_cases hx : l[k] = n
      · have HD : Hid (decide ((k : Int) ≥ 0) = decide (n ∈ l)) := Lib.hid (by rw [decide_eq_true (show (k : Int) ≥ 0 by omega)]; exact (decide_eq_true (by rw [← hx]; exact List.getElem_mem hkl)).symm)
        have t1 : (l[k] == n) = true := beq_iff_eq.2 hx
        have t2 : (n == l[k]) = true := beq_iff_eq.2 hx.symm
        clear hx
        generalize l[k] = y at *
        go_wp2_with fail
        go_ret
        exact ⟨_, rfl, HD.out, HG.out⟩
      · have HN : Hid (n ∉ l.take (k + 1)) := Lib.hid (by
          rw [List.take_succ_eq_append_getElem hkl, List.mem_append]
          rintro (h | h)
          · exact HA.out h
          · rw [List.mem_singleton] at h; exact hx h.symm)
        have t1 : (l[k] == n) = false := beq_eq_false_iff_ne.2 hx
        have t2 : (n == l[k]) = false := beq_eq_false_iff_ne.2 (fun h => hx h.symm)
        clear hx
        generalize l[k] = y at *
        go_wp2_with fail
        go_roundw
        case rel => exact ⟨k + 1, by omega, by go_num, HN.out, HG.out⟩
        case measure => simp [intOf]; omega
    · obtain rfl : k = L := by omega
      have HD : Hid (decide ((-1 : Int) ≥ 0) = decide (n ∈ l)) := Lib.hid (by
        have h9 : decide (n ∈ l) = false := decide_eq_false (fun h => HA.out (by rw [List.take_of_length_le (by rw [← HL.out]; exact Nat.le_refl _)]; exact h))
        rw [h9]; rfl)
      go_wp2_with fail
      go_ret
      exact ⟨_, rfl, HD.out, HG.out⟩
theorem containsInt_any {w : World} {A : Option Addr} {c : Nat} {l : List Int} {n : Int} (D : SeesN .i64 w A l) : Calls Try.prog 97 #[.slice A l.length c, .int .i64 n] w fun e w' => e = .returned (.bool (decide (n ∈ l))) ∧ w.grownBy w' none := by
  have HI := Lib.hid (indexInt_any (c := c) (n := n) D)
  clear D
  generalize decide (n ∈ l) = r at *
  generalize l.length = L at *
  go_enter Try.func97, Try.ntmps97
  go_wp2_with fail
  refine HI.out.mono ?_
  rintro e w1 ⟨q, rfl, hr, hg⟩
  have G := Lib.hid hg
  have HR := Lib.hid hr
  clear hg hr HI
  go_wp2_with fail
  go_ret
  exact ⟨ret_bool HR.out, G.out⟩
theorem probeHits_at {C : List (List Int)} {j : Nat} (hj : j < C.length) (m : List Int) : (M.probeHits C m)[j]'(by rw [M.probeHits_len]; exact hj) = ⟨(j : Int), M.cdist C m j⟩ := by simp [M.probeHits]
set_option maxHeartbeats 2000000 in
theorem probes_spec {w : World} {A B : Option Addr} {c d : Nat} {C : List (List Int)} {m : List Int} {k : Int} (D : SeesV w A C) (E : SeesN .i64 w B m) (hC : M.areVecs C = true) (hm : M.isVec m = true) (hk : 1 ≤ k) (hk2 : k ≤ 16) :
    Calls Try.prog 61 #[.slice A C.length c, .slice B m.length d, .int .i64 k] w (GotN .i64 w (M.probesL C m k.toNat)) := by
  obtain ⟨i0, hi0, hz0, hz1, hz2⟩ := info_parts info_int
  obtain ⟨hv, hl1, hl4⟩ := M.areVecs_of hC
  obtain ⟨b, o, rfl⟩ := D.base hl1
  obtain ⟨n, hn⟩ : ∃ n, n = C.length := ⟨_, rfl⟩
  rw [← hn] at hl4 hl1 ⊢
  have HL := Lib.hid hn
  have HD := Lib.hid D
  have HE := Lib.hid E
  have HV := Lib.hid hv
  have HM := Lib.hid hm
  have HPL := Lib.hid (probesL_le hC m k.toNat)
  have HQ : Hid (M.probesL C m k.toNat = (M.addAll k.toNat [] (M.probeHits C m)).map M.Hit.key) := Lib.hid (by rw [M.addAll_nil]; rfl)
  have HACC : Hid (∀ j, M.WS (M.addAll k.toNat [] ((M.probeHits C m).take j)) ∧ (M.addAll k.toNat [] ((M.probeHits C m).take j)).length ≤ 16) := Lib.hid fun j => ⟨M.addAll_ws _ _ _ List.Pairwise.nil, by have := M.addAll_len k.toNat ((M.probeHits C m).take j) [] (Nat.zero_le _); omega⟩
  generalize M.probesL C m k.toNat = r at *
  clear hn D E hv hm hC
  go_enter Try.func61, Try.ntmps61
  go_wp2_with fail
  go_loopw [7, 8] (fun v i wr => ∃ j : Nat, j ≤ n ∧ i = .int .i64 j ∧ OwnX wr w.heap.size v (M.addAll k.toNat [] ((M.probeHits C m).take j)) ∧ w.grownBy wr none) (fun _ i _ => n - (intOf i).toNat)
  case atStart => exact ⟨0, Nat.zero_le _, rfl, World.ownsRow_made (e := 45) (size := 2) w #[] 0 (Nat.le_refl _) (by decide) rfl, gb_alloc (gb_refl _ _) _⟩
  case round =>
    obtain ⟨j, hj, rfl, hown, hg⟩ := hrel
    have HG := Lib.hid hg
    have HO := Lib.hid hown
    have hsz := hg.size
    obtain ⟨Ao, co, rfl, hco⟩ := hown.form
    clear hown hg
    by_cases hlt : j < n
    · have hjl : j < C.length := by rw [← HL.out]; exact hlt
      have DD := HD.out.on HG.out
      obtain ⟨Au, cu, c0, hru⟩ := DD.cell rfl hjl
      have hvx := HV.out _ (List.getElem_mem hjl)
      have HDI : Hid (∀ W, wr.grownBy W none → Calls Try.prog 77 #[.int .i64 3, .slice Au C[j].length cu, .slice B m.length d] W fun e w' => e = .returned (.int .i64 (M.cdist C m j)) ∧ W.grownBy w' none) := Lib.hid fun W hW => by
        unfold M.cdist
        rw [M.getD_of hjl]
        exact (specDist_any (by rw [(M.isVec_of hvx).2]; omega) (by rw [(M.isVec_of hvx).2, (M.isVec_of HM.out).2]) (M.isVec_of hvx).1 (M.isVec_of HM.out).1 (by omega) (by omega) ((hru.keep hW (by omega)).wide (Nat.zero_le _) (by have := hW.size; omega)) (HE.out.on (gb_trans HG.out hW)).1).mono fun _ _ ⟨he, hq⟩ => ⟨he, gb_of_drewN hq⟩
      have HNX : Hid (M.addAll k.toNat [] ((M.probeHits C m).take (j + 1)) = (M.ins ⟨(j : Int), M.cdist C m j⟩ (M.addAll k.toNat [] ((M.probeHits C m).take j))).take k.toNat) := Lib.hid (by
        rw [M.addAll_succ k.toNat [] (M.probeHits C m) (by rw [M.probeHits_len]; exact hjl), probeHits_at hjl])
      have HAC := Lib.hid (HACC.out j)
      clear hvx DD hru
      generalize M.cdist C m j = q at *
      generalize C[j].length = yl at *
      generalize hac : M.addAll k.toNat [] ((M.probeHits C m).take j) = acc at *
      clear hac
      have HAH : Hid (∀ W, wr.grownBy W none → Calls Try.prog 76 #[.slice Ao acc.length co, .agg #[.int .i64 j, .int .i64 q], .int .i64 k] W (HitsMade W ((M.ins ⟨(j : Int), q⟩ acc).take k.toNat))) := Lib.hid fun W hW => addHit_any (h := ⟨(j : Int), q⟩) ((HO.out.sees (by have := HAC.out.2; omega)).on hW) HAC.out.1 HAC.out.2 hk hk2
      have hnl : ((M.ins ⟨(j : Int), q⟩ acc).take k.toNat).length ≤ 1048576 := by rw [List.length_take, M.ins_len]; have := HAC.out.2; omega
      generalize (M.ins ⟨(j : Int), q⟩ acc).take k.toNat = nw at *
      have kn : (j : Int) < n := by omega
      have k0 : (0 : Int) ≤ j := by omega
      have HCE : Hid (∀ V, wr.grownBy V none → V.cell? ⟨b, o + j, none⟩ = some (.slice Au yl cu)) := Lib.hid fun V hV => hV.cell c0 (by simp)
      go_wp2_with fail
      refine (HDI.out _ (gb_refl _ _)).mono ?_
      rintro e w5 ⟨rfl, hg⟩
      have S5 : Hid (wr.grownBy w5 none) := Lib.hid hg
      clear hg
      go_wp2_with fail
      refine (HAH.out _ S5.out).mono ?_
      rintro e w6 ⟨A6, c6, rfl, hc6, ho, hg⟩
      have O6 := Lib.hid ho
      have S6 : Hid (wr.grownBy w6 none) := Lib.hid (gb_trans S5.out hg)
      have hs5 := S5.out.size
      clear hc6 ho hg
      go_wp2_with fail
      go_roundw
      case rel => exact ⟨j + 1, by omega, by go_num, by rw [HNX.out]; exact O6.out.wide (by omega), gb_trans HG.out S6.out⟩
      case measure => simp [intOf]; omega
    · obtain rfl : j = n := by omega
      have HA : Hid (M.addAll k.toNat [] ((M.probeHits C m).take j) = M.addAll k.toNat [] (M.probeHits C m)) := Lib.hid (by rw [List.take_of_length_le (by rw [M.probeHits_len, ← HL.out]; exact Nat.le_refl _)])
      rw [HA.out] at HO hco ⊢
      have hal := (HACC.out j).2
      rw [HA.out] at hal
      generalize M.addAll k.toNat [] (M.probeHits C m) = acc at *
      obtain ⟨na, hna⟩ : ∃ n, n = acc.length := ⟨_, rfl⟩
      have HSX := Lib.hid (HO.out.sees (by omega))
      have HNA := Lib.hid hna
      have hs1 := HG.out.size
      rw [← hna] at hal hco ⊢
      clear hna HACC
      generalize wr = w9 at *
      go_wp2_with fail
      go_loopw [9, 10] (fun v i w2 => ∃ t : Nat, t ≤ na ∧ i = .int .i64 t ∧ w2.ownsRow w9.heap.size 3 1 v t (((acc.take t).map M.Hit.key).map (.int .i64)) ∧ w9.grownBy w2 none) (fun _ i _ => na - (intOf i).toNat)
      case atStart => exact ⟨0, Nat.zero_le _, rfl, World.ownsRow_made (e := 3) (size := 1) w9 #[] 0 (Nat.le_refl _) (by decide) rfl, gb_alloc (gb_refl _ _) _⟩
      case round =>
        obtain ⟨t, ht, rfl, hown, hg⟩ := hrel
        have G1 := Lib.hid hg
        have O := Lib.hid hown
        have hszw := hg.size
        have hlm : ((acc.take t).map M.Hit.key).length = t := by rw [List.length_map, List.length_take, ← HNA.out]; omega
        obtain ⟨Av, cv, hvv, hcv, hrv⟩ := OwnInts.rd (k := .i64) (t := 3) (lo := w9.heap.size) (w := wr) (v := u9) (l := (acc.take t).map M.Hit.key) (by unfold OwnInts; rw [hlm]; exact hown)
        rw [hlm] at hvv hcv
        subst hvv
        have HRV := Lib.hid hrv
        have HLM := Lib.hid hlm
        clear hg hown hrv hlm
        by_cases hlt2 : t < na
        · have hjl : t < acc.length := by rw [← HNA.out]; exact hlt2
          obtain ⟨b', o', rfl, _, _, c0, c1⟩ := (HSX.out.on G1.out).1.hit (List.getElem?_eq_getElem hjl)
          have HTK : Hid ((acc.take (t + 1)).map M.Hit.key = (acc.take t).map M.Hit.key ++ [acc[t].key]) := Lib.hid (by rw [List.take_succ_eq_append_getElem hjl, List.map_append]; rfl)
          have kn : (t : Int) < na := by omega
          have k0 : (0 : Int) ≤ t := by omega
          generalize acc[t].key = y at *
          clear c1
          go_wp2_with (at_builtin; refine wpList_append_own _ rfl (.tmp 36) (.tmp 42) 23 rfl w9.heap.size 3 i0 (.int .i64 0) 1 8 Try.underlying23 hi0 hz0 hz1 hz2 rfl (by decide) _ t (((acc.take t).map M.Hit.key).map (.int .i64)) rfl (O.out.alloc _) ⟨wr.heap.size, 0, none⟩ 1 1 [.int .i64 y] rfl rfl one_cell_new (one_cells rfl) (by unfold maxLen; omega) (by omega) (by simp; omega) ?_; intro v' w4 hown' hgrow _; have T1 := Lib.hid hown'; have T2 := Lib.hid hgrow; clear hown' hgrow)
          go_roundw
          case rel =>
            refine ⟨t + 1, by omega, by go_num, ?_, gb_new (gb_alloc G1.out (.cells #[.int .i64 y] 3)) T2.out (fun b hb => .inl (O.out.lt b hb).1)⟩
            rw [HTK.out, List.map_append]
            exact T1.out
          case measure => simp [intOf]; omega
        · obtain rfl : t = na := by omega
          have HALL : Hid (acc.take t = acc) := Lib.hid (List.take_of_length_le (by rw [← HNA.out]; exact Nat.le_refl _))
          rw [HALL.out] at HRV HLM
          go_wp2_with fail
          go_ret
          have hr : r = acc.map M.Hit.key := HQ.out
          refine ⟨Av, cv, ?_, by rw [hr, HLM.out]; exact hcv, ⟨by rw [hr]; exact HRV.out.wide (Nat.zero_le _) (Nat.le_refl _), by rw [hr, HLM.out]; omega⟩, gb_trans HG.out G1.out⟩
          rw [hr, HLM.out]
          rfl
end Go.Proofs.Ytamaoljjoghajaa
