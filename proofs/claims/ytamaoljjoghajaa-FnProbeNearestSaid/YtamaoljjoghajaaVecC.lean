/- The walks: the nearest of the centres. -/
import Derived.Test.YtamaoljjoghajaaVecB
namespace Go.Proofs.Ytamaoljjoghajaa
open Go.RowKit
set_option linter.unusedVariables false
set_option linter.unusedSimpArgs false
set_option maxRecDepth 100000
namespace M
theorem getD_of {α : Type} {l : List α} {k : Nat} (h : k < l.length) (d : α) : l.getD k d = l[k] := by simp [List.getD_eq_getElem?_getD, List.getElem?_eq_getElem h]
theorem bestTo_bound {C : List (List Int)} {m : List Int} {k : Nat} (h : 1 ≤ C.length) (hk : k ≤ C.length) : bestTo C m k < C.length := by
  rcases bestTo_lt C m k with h' | h' <;> omega
theorem bestTo_next {C : List (List Int)} {m : List Int} {k : Nat} (hk : k < C.length) (hb : bestTo C m k < C.length) : bestTo C m (k + 1) = if dist 3 C[k] m < dist 3 C[bestTo C m k] m then k else bestTo C m k := by
  show (if cdist C m k < cdist C m (bestTo C m k) then k else bestTo C m k) = _
  unfold cdist
  rw [getD_of hk, getD_of hb]
theorem centre_lt {C : List (List Int)} {m : List Int} (h : 1 ≤ C.length) : centre C m < C.length := bestTo_bound h (Nat.le_refl _)
end M
theorem SeesV.cell {w : World} {A : Option Addr} {C : List (List Int)} (D : SeesV w A C) {b o : Nat} (hA : A = some ⟨b, o, none⟩) {i : Nat} (hi : i < C.length) :
    ∃ Au cu, w.cell? ⟨b, o + i, none⟩ = some (.slice Au C[i].length cu) ∧ Rd w 0 w.heap.size Au (C[i].map (.int .i64)) := by
  obtain ⟨b', o', e, _, _, u, c0, hu⟩ := D.1.at_ (List.getElem?_eq_getElem hi)
  rw [hA] at e
  cases e
  obtain ⟨Au, cu, rfl, hcu, hru⟩ := hu
  exact ⟨Au, cu, c0, hru⟩
theorem SeesV.base {w : World} {A : Option Addr} {C : List (List Int)} (D : SeesV w A C) (h : 1 ≤ C.length) : ∃ b o, A = some ⟨b, o, none⟩ := by
  obtain ⟨b, o, e, _⟩ := D.1 (by intro hn; rw [hn] at h; simp at h)
  exact ⟨b, o, e⟩
set_option maxHeartbeats 1000000 in
theorem closestOf_any {w : World} {A B : Option Addr} {c d : Nat} {C : List (List Int)} {m : List Int} (D : SeesV w A C) (E : SeesN .i64 w B m) (hC : M.areVecs C = true) (hm : M.isVec m = true) :
    Calls Try.prog 101 #[.slice A C.length c, .slice B m.length d] w fun e w' => e = .returned (.int .i64 (M.centre C m : Nat)) ∧ w.grownBy w' none := by
  obtain ⟨hv, hl1, hl4⟩ := M.areVecs_of hC
  obtain ⟨b, o, rfl⟩ := D.base hl1
  obtain ⟨n, hn⟩ : ∃ n, n = C.length := ⟨_, rfl⟩
  have HX : Hid (M.centre C m = M.bestTo C m n) := Lib.hid (by rw [hn]; rfl)
  rw [← hn] at hl1 hl4 ⊢
  have HL := Lib.hid hn
  have HD := Lib.hid D
  have HE := Lib.hid E
  have HVS := Lib.hid hv
  have HM := Lib.hid hm
  obtain ⟨mn, hmn⟩ : ∃ n, n = m.length := ⟨_, rfl⟩
  have HMN := Lib.hid hmn
  rw [← hmn]
  generalize M.centre C m = r at *
  clear hn D E hv hm hC hmn
  go_enter Try.func101, Try.ntmps101
  go_wp2_with fail
  go_loopw [5, 10] (fun p i wr => ∃ j : Nat, j ≤ n ∧ i = .int .i64 j ∧ p = .int .i64 (M.bestTo C m j : Nat) ∧ w.grownBy wr none) (fun _ i _ => n - (intOf i).toNat)
  case atStart => exact ⟨0, Nat.zero_le _, rfl, rfl, gb_refl _ _⟩
  case round =>
    obtain ⟨j, hj, rfl, rfl, hg⟩ := hrel
    have HG := Lib.hid hg
    clear hg
    by_cases hlt : j < n
    · have hjl : j < C.length := by rw [← HL.out]; exact hlt
      have hbl : M.bestTo C m j < C.length := M.bestTo_bound (by rw [← HL.out]; omega) (by omega)
      have DD := HD.out.on HG.out
      obtain ⟨Au, cu, c0, hru⟩ := DD.cell rfl hjl
      obtain ⟨Az, cz, c1, hrz⟩ := DD.cell rfl hbl
      have HN := Lib.hid (M.bestTo_next hjl hbl)
      have hrm := (HE.out.on HG.out).rd
      have HC0 : Hid (∀ x : Later wr, Calls Try.prog 67 #[.int .i64 3, .slice Au C[j].length cu, .slice B mn d] x.w fun e w' => e = .returned (.int .i64 (M.dist 3 C[j] m)) ∧ x.w.grownBy w' none) := Lib.hid (fun x => by
        rw [HMN.out]; exact distance_any (HVS.out _ (List.getElem_mem hjl)) HM.out (hru.keep x.h (Nat.le_refl _)) (hrm.keep x.h (Nat.le_refl _)))
      have HC1 : Hid (∀ x : Later wr, Calls Try.prog 67 #[.int .i64 3, .slice Az C[M.bestTo C m j].length cz, .slice B mn d] x.w fun e w' => e = .returned (.int .i64 (M.dist 3 C[M.bestTo C m j] m)) ∧ x.w.grownBy w' none) := Lib.hid (fun x => by
        rw [HMN.out]; exact distance_any (HVS.out _ (List.getElem_mem hbl)) HM.out (hrz.keep x.h (Nat.le_refl _)) (hrm.keep x.h (Nat.le_refl _)))
      have l1 : ∀ x : Later wr, x.w.cell? ⟨b, o + M.bestTo C m j, none⟩ = some (.slice Az C[M.bestTo C m j].length cz) := fun x => x.cell c1
      have kb : ((M.bestTo C m j : Nat) : Int) < n := by rw [HL.out]; omega
      have kb0 : (0 : Int) ≤ ((M.bestTo C m j : Nat) : Int) := by omega
      have kn : (j : Int) < n := by omega
      have k0 : (0 : Int) ≤ j := by omega
      clear DD hru hrz hrm c1
      generalize M.dist 3 C[j] m = p at *
      generalize M.dist 3 C[M.bestTo C m j] m = q at *
      generalize C[j].length = yn at *
      generalize C[M.bestTo C m j].length = zn at *
      generalize hbe : M.bestTo C m j = be at *
      clear hbe hbl hjl
      by_cases hpq : p < q
      · have HN' : Hid (M.bestTo C m (j + 1) = j) := Lib.hid (by rw [HN.out, if_pos hpq])
        go_wp2_with fail
        refine wp_region_later (by kernel_rfl) (by kernel_rfl) ?_
        repeat (go_big_quiet_step ((first | (go_at_call_of 67 Au; exact later_call (HC0.out _)) | (go_at_call_of 67 Az; exact later_call (HC1.out _)))))
        refine wpQuiet_nil ?_
        rintro _ ⟨x, rfl⟩
        have GX := Lib.hid (gb_trans HG.out x.h)
        go_wp2_with fail
        go_roundw
        case rel => exact ⟨j + 1, by omega, by go_num, by rw [HN'.out], GX.out⟩
        case measure => simp [intOf]; omega
      · have HN' : Hid (M.bestTo C m (j + 1) = be) := Lib.hid (by rw [HN.out, if_neg hpq])
        go_wp2_with fail
        refine wp_region_later (by kernel_rfl) (by kernel_rfl) ?_
        repeat (go_big_quiet_step ((first | (go_at_call_of 67 Au; exact later_call (HC0.out _)) | (go_at_call_of 67 Az; exact later_call (HC1.out _)))))
        refine wpQuiet_nil ?_
        rintro _ ⟨x, rfl⟩
        have GX := Lib.hid (gb_trans HG.out x.h)
        go_wp2_with fail
        go_roundw
        case rel => exact ⟨j + 1, by omega, by go_num, by rw [HN'.out], GX.out⟩
        case measure => simp [intOf]; omega
    · obtain rfl : j = n := by omega
      go_wp2_with fail
      go_ret
      exact ⟨ret_int (by rw [HX.out]), HG.out⟩
theorem centreOf_impl {w : World} {A B : Option Addr} {c d : Nat} {C : List (List Int)} {m : List Int} (D : SeesV w A C) (E : SeesN .i64 w B m) (hC : M.areVecs C = true) (hm : M.isVec m = true) :
    Calls Try.prog 68 #[.slice A C.length c, .slice B m.length d] w fun e w' => e = .returned (.int .i64 (M.centre C m : Nat)) ∧ w.grownBy w' none := by
  have HI := Lib.hid (closestOf_any (c := c) (d := d) D E hC hm)
  generalize C.length = n at *
  generalize m.length = k at *
  generalize M.centre C m = r at *
  clear D E hC hm
  go_enter Try.func68, Try.ntmps68
  go_wp2_with fail
  refine HI.out.mono ?_
  rintro e w1 ⟨rfl, hg⟩
  have G := Lib.hid hg
  clear hg HI
  go_wp2_with fail
  go_ret
  exact ⟨rfl, G.out⟩
set_option maxHeartbeats 1000000 in
theorem centreOf_spec {w : World} {A B : Option Addr} {c d : Nat} {C : List (List Int)} {m : List Int} (D : SeesV w A C) (E : SeesN .i64 w B m) (hC : M.areVecs C = true) (hm : M.isVec m = true) :
    Calls Try.prog 63 #[.slice A C.length c, .slice B m.length d] w fun e w' => e = .returned (.int .i64 (M.centre C m : Nat)) ∧ w.grownBy w' none := by
  obtain ⟨hv, hl1, hl4⟩ := M.areVecs_of hC
  obtain ⟨b, o, rfl⟩ := D.base hl1
  obtain ⟨n, hn⟩ : ∃ n, n = C.length := ⟨_, rfl⟩
  have HX : Hid (M.centre C m = M.bestTo C m n) := Lib.hid (by rw [hn]; rfl)
  rw [← hn] at hl1 hl4 ⊢
  have HL := Lib.hid hn
  have HD := Lib.hid D
  have HE := Lib.hid E
  have HVS := Lib.hid (fun c hc => M.isVec_of (hv c hc))
  have HM := Lib.hid (M.isVec_of hm)
  obtain ⟨mn, hmn⟩ : ∃ n, n = m.length := ⟨_, rfl⟩
  have HMN := Lib.hid hmn
  rw [← hmn]
  generalize M.centre C m = r at *
  clear hn D E hv hm hC hmn
  go_enter Try.func63, Try.ntmps63
  go_wp2_with fail
  go_loopw [5, 6] (fun p i wr => ∃ j : Nat, j ≤ n ∧ 1 ≤ j ∧ i = .int .i64 j ∧ p = .int .i64 (M.bestTo C m j : Nat) ∧ w.grownBy wr none) (fun _ i _ => n - (intOf i).toNat)
  case atStart => exact ⟨1, hl1, Nat.le_refl _, rfl, by rw [M.bestTo_one]; rfl, gb_refl _ _⟩
  case round =>
    obtain ⟨j, hj, hj1, rfl, rfl, hg⟩ := hrel
    have HG := Lib.hid hg
    clear hg
    by_cases hlt : j < n
    · have hjl : j < C.length := by rw [← HL.out]; exact hlt
      have hbl : M.bestTo C m j < C.length := M.bestTo_bound (by rw [← HL.out]; omega) (by omega)
      have DD := HD.out.on HG.out
      obtain ⟨Au, cu, c0, hru⟩ := DD.cell rfl hjl
      obtain ⟨Az, cz, c1, hrz⟩ := DD.cell rfl hbl
      have HN := Lib.hid (M.bestTo_next hjl hbl)
      have hrm := (HE.out.on HG.out).rd
      have HW : Hid (∀ x : Later wr, 0 ≤ x.w.heap.size) := Lib.hid (fun x => Nat.zero_le _)
      have HC0 : Hid (∀ x : Later wr, Calls Try.prog 77 #[.int .i64 3, .slice Au C[j].length cu, .slice B mn d] x.w fun e w' => e = .returned (.int .i64 (M.dist 3 C[j] m)) ∧ x.w.grownBy w' none) := Lib.hid (fun x => by
        have h1 := HVS.out _ (List.getElem_mem hjl)
        rw [HMN.out]
        exact (specDist_any (kind := 3) (by omega) (by rw [h1.2, HM.out.2]) h1.1 HM.out.1 (by omega) (by omega) ((hru.keep x.h (Nat.le_refl _)).wide (Nat.le_refl _) x.h.size) ((hrm.keep x.h (Nat.le_refl _)).wide (Nat.le_refl _) x.h.size)).mono (by
          rintro e w' ⟨rfl, q, rfl⟩; exact ⟨rfl, gb_drewN (gb_refl _ _) _⟩))
      have HC1 : Hid (∀ x : Later wr, Calls Try.prog 77 #[.int .i64 3, .slice Az C[M.bestTo C m j].length cz, .slice B mn d] x.w fun e w' => e = .returned (.int .i64 (M.dist 3 C[M.bestTo C m j] m)) ∧ x.w.grownBy w' none) := Lib.hid (fun x => by
        have h1 := HVS.out _ (List.getElem_mem hbl)
        rw [HMN.out]
        exact (specDist_any (kind := 3) (by omega) (by rw [h1.2, HM.out.2]) h1.1 HM.out.1 (by omega) (by omega) ((hrz.keep x.h (Nat.le_refl _)).wide (Nat.le_refl _) x.h.size) ((hrm.keep x.h (Nat.le_refl _)).wide (Nat.le_refl _) x.h.size)).mono (by
          rintro e w' ⟨rfl, q, rfl⟩; exact ⟨rfl, gb_drewN (gb_refl _ _) _⟩))
      have l1 : ∀ x : Later wr, x.w.cell? ⟨b, o + M.bestTo C m j, none⟩ = some (.slice Az C[M.bestTo C m j].length cz) := fun x => x.cell c1
      have l0 : ∀ x : Later wr, x.w.cell? ⟨b, o + j, none⟩ = some (.slice Au C[j].length cu) := fun x => x.cell c0
      have kb : ((M.bestTo C m j : Nat) : Int) < n := by rw [HL.out]; omega
      have kb0 : (0 : Int) ≤ ((M.bestTo C m j : Nat) : Int) := by omega
      have kn : (j : Int) < n := by omega
      have k0 : (0 : Int) ≤ j := by omega
      clear DD hru hrz hrm c1 c0
      generalize M.dist 3 C[j] m = p at *
      generalize M.dist 3 C[M.bestTo C m j] m = q at *
      generalize C[j].length = yn at *
      generalize C[M.bestTo C m j].length = zn at *
      generalize hbe : M.bestTo C m j = be at *
      clear hbe hbl hjl
      by_cases hpq : p < q
      · have HN' : Hid (M.bestTo C m (j + 1) = j) := Lib.hid (by rw [HN.out, if_pos hpq])
        go_wp2_with fail
        refine wp_region_later (by kernel_rfl) (by kernel_rfl) ?_
        repeat (go_big_quiet_step ((first | (go_at_call_of 77 Au; exact later_call (HC0.out _)) | (go_at_call_of 77 Az; exact later_call (HC1.out _)))))
        refine wpQuiet_nil ?_
        rintro _ ⟨x, rfl⟩
        have GX := Lib.hid (gb_trans HG.out x.h)
        go_wp2_with fail
        go_roundw
        case rel => exact ⟨j + 1, by omega, by omega, by go_num, by rw [HN'.out], GX.out⟩
        case measure => simp [intOf]; omega
      · have HN' : Hid (M.bestTo C m (j + 1) = be) := Lib.hid (by rw [HN.out, if_neg hpq])
        go_wp2_with fail
        refine wp_region_later (by kernel_rfl) (by kernel_rfl) ?_
        repeat (go_big_quiet_step ((first | (go_at_call_of 77 Au; exact later_call (HC0.out _)) | (go_at_call_of 77 Az; exact later_call (HC1.out _)))))
        refine wpQuiet_nil ?_
        rintro _ ⟨x, rfl⟩
        have GX := Lib.hid (gb_trans HG.out x.h)
        go_wp2_with fail
        go_roundw
        case rel => exact ⟨j + 1, by omega, by omega, by go_num, by rw [HN'.out], GX.out⟩
        case measure => simp [intOf]; omega
    · obtain rfl : j = n := by omega
      go_wp2_with fail
      go_ret
      exact ⟨ret_int (by rw [HX.out]), HG.out⟩
end Go.Proofs.Ytamaoljjoghajaa
