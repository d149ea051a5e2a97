/- The walks of replaying logs and of getting items. -/
import Derived.Test.YthoakomccjjhbaaRepW
namespace Go.Proofs.Ythoakomccjjhbaa
open Go.RowKit
set_option linter.unusedVariables false
set_option maxRecDepth 100000

set_option maxHeartbeats 2000000 in
theorem replayLog_impl {w : World} {A B : Option Addr} {c d : Nat} {L : List M.Item} {l : List M.Entry} (D : SeesI w A L) (E : SeesE w B l) (hkd : ∀ x ∈ l, x.kind = 1 ∨ x.kind = 2) :
    Calls Try.prog 85 #[.slice A L.length c, .slice B l.length d] w (RepMade w (repInt (M.replay L l))) := by
  have HC := Lib.hid (copyItems_impl w A c 0 w.heap.size L D.2.1 D.2.2 D.1 (Nat.le_refl _))
  have HSM := Lib.hid D.2
  have HE := Lib.hid E
  have HKD := Lib.hid hkd
  have hl := E.2.1
  clear D E hkd
  obtain ⟨n, hn⟩ : ∃ n, n = l.length := ⟨_, rfl⟩
  rw [← hn] at hl ⊢
  have HN := Lib.hid hn
  have HLL : Hid (∀ v w', OwnItems w' w.heap.size v L → w.grownBy w' none → ∃ A c, v = .slice A L.length c ∧ L.length ≤ c) := Lib.hid fun v w' ho _ => by
    obtain ⟨A, c, e, hc, _⟩ := ho.rd
    exact ⟨A, c, e, hc⟩
  clear hn
  generalize L.length = m at HC ⊢
  go_enter Try.func85, Try.ntmps85
  go_wp2_with fail
  refine HC.out.mono ?_
  rintro e w0 ⟨v0, rfl, ho, hg⟩
  have G0 := Lib.hid hg
  have O0 := Lib.hid ho
  have hs0 := hg.size
  have DE := Lib.hid (HE.out.on hg)
  clear ho hg HC HE
  go_wp2_with fail
  go_loopw [6, 15] (fun v i wr => ∃ (k : Nat) (K : List M.Item), k ≤ n ∧ i = .int .i64 k ∧ OwnItems wr w.heap.size v K ∧ Small K ∧ At L l k K ∧ w0.grownBy wr none) (fun _ i _ => n - (intOf i).toNat)
  case atStart => exact ⟨0, L, Nat.zero_le _, rfl, O0.out, HSM.out, At.zero L l, gb_refl _ _⟩
  case round =>
    obtain ⟨k, K, hk, rfl, hown, hsm, hat, hg⟩ := hrel
    obtain ⟨Av, cv, hv, hcv, _⟩ := hown.rd
    subst hv
    have G := Lib.hid hg
    have O := Lib.hid hown
    have SM := Lib.hid hsm
    have HAT := Lib.hid hat
    have hszw := hg.size
    have HCV := Lib.hid hcv
    clear hown hsm hat hg O0 hcv
    by_cases hlt : k < n
    · have hkl : k < l.length := by rw [← HN.out]; exact hlt
      obtain ⟨b, o, rfl, hb1, hb2, hJ⟩ := DE.out.1.at_ (List.getElem?_eq_getElem hkl)
      obtain ⟨u, c0, c1, c2, c3, hu⟩ := hJ.agree hb1 hb2 (Agree.of_grown G.out)
      obtain ⟨Au, cu, rfl, hcu, hru⟩ := hu
      have HU := Lib.hid ((show RdInts .i64 wr 0 w0.heap.size (.slice Au l[k].item.pos.length cu) l[k].item.pos from ⟨_, _, rfl, hcu, hru⟩).wide (Nat.le_refl _) hszw)
      have hpl : l[k].item.pos.length ≤ 1048576 := DE.out.2.2 _ (List.getElem_mem hkl)
      have kn : (k : Int) < n := by omega
      have k0 : (0 : Int) ≤ k := by omega
      clear hJ hcu hru
      have HKX := Lib.hid (HKD.out _ (List.getElem_mem hkl))
      have HSTOP : Hid (M.apply K l[k] = none → repInt (M.replay L l) = (K, (k : Int))) := Lib.hid fun h => HAT.out.stop hkl h
      have HNEXT : Hid (∀ K', M.apply K l[k] = some K' → At L l (k + 1) K') := Lib.hid fun K' h => HAT.out.next hkl h
      have HV' : Hid (∀ K', M.apply K l[k] = some K' → Small K') := Lib.hid fun K' h => Small.of_valid (M.apply_valid h)
      generalize l[k] = y at *
      have G1 := Lib.hid (World.grownBy_alloc wr (.cells #[.int .i64 y.kind, .int .i64 y.item.key, .slice Au y.item.pos.length cu, .int .i64 y.item.tags] 30) none)
      have HP : Hid (Calls Try.prog 105 #[.slice Av K.length cv, .agg #[.int .i64 y.item.key, .slice Au y.item.pos.length cu, .int .i64 y.item.tags]] (wr.alloc (.cells #[.int .i64 y.kind, .int .i64 y.item.key, .slice Au y.item.pos.length cu, .int .i64 y.item.tags] 30)) (PutGot (wr.alloc (.cells #[.int .i64 y.kind, .int .i64 y.item.key, .slice Au y.item.pos.length cu, .int .i64 y.item.tags] 30)) (M.PutItem K y.item))) := Lib.hid ((PutItem_impl ((O.out.sees SM.out).on G1.out) ((HU.out.keep G1.out (Nat.le_refl _)).wide (Nat.le_refl _) G1.out.size) hpl).mono fun _ _ h => h.got)
      by_cases hkd : y.kind = 2
      · have tk : (y.kind == 2) = true := by simp [hkd]
        have HAP : Hid (M.apply K y = M.DropItem K y.item.key) := Lib.hid (by unfold M.apply; rw [if_neg (by omega)])
        have HDR : Hid (∀ W, wr.grownBy W none → Calls Try.prog 106 #[.slice Av K.length cv, .int .i64 y.item.key] W (PutGot W (M.DropItem K y.item.key))) := Lib.hid fun W hW => (DropItem_impl ((O.out.sees SM.out).on hW)).mono fun _ _ h => h.got
        rw [HAP.out] at HSTOP HNEXT HV'
        generalize M.PutItem K y.item = r at *
        obtain ⟨s, hs⟩ : ∃ s, s = M.DropItem K y.item.key := ⟨_, rfl⟩
        rw [← hs] at HDR HSTOP HNEXT HV'
        clear hs hkd HAP
        obtain ⟨m, hm⟩ : ∃ m, m = K.length := ⟨_, rfl⟩
        rw [← hm] at HP HDR ⊢
        have HM := Lib.hid hm
        clear hm
        have B1 := Lib.hid (Row.new wr 30 (ca := #[.int .i64 y.kind, .int .i64 y.item.key, .slice Au y.item.pos.length cu, .int .i64 y.item.tags]) rfl)
        go_wp2_with fail
        refine HP.out.mono ?_
        rintro e w2 ⟨A1, c1, rfl, _, _, _, hg⟩
        have G2 := Lib.hid (gb_trans G1.out hg)
        have B2 := Lib.hid (B1.out.grown hg (by simp))
        clear hg HP
        have b0 := B2.out.cell 0
        have b1 := B2.out.cell 1
        have b2 := B2.out.cell 2
        have b3 := B2.out.cell 3
        have bf0 := B2.out.frozen 0
        have bf1 := B2.out.frozen 1
        have bf2 := B2.out.frozen 2
        have bf3 := B2.out.frozen 3
        simp only [List.getElem?_cons_zero, List.getElem?_cons_succ] at b0 b1 b2 b3
        cases s with
        | none =>
          have HS := Lib.hid (HSTOP.out rfl)
          go_wp2_with fail
          refine (HDR.out _ G2.out).mono ?_
          rintro e w3 ⟨A2, c2, rfl, _, _, _, hg⟩
          have G3 := Lib.hid (gb_trans G2.out hg)
          clear hg
          go_wp2_with fail
          go_ret2
          exact HM.out ▸ repMade_some HS.out HCV.out ((O.out.grown G3.out (by simp)).wide (Nat.le_refl _)) (gb_trans (gb_trans G0.out G.out) G3.out)
        | some K' =>
          have HA := Lib.hid (HNEXT.out K' rfl)
          have HS := Lib.hid (HV'.out K' rfl)
          go_wp2_with fail
          refine (HDR.out _ G2.out).mono ?_
          rintro e w3 ⟨A2, c2, rfl, _, ho, _, hg⟩
          have G3 := Lib.hid (gb_trans G2.out hg)
          have O3 := Lib.hid (ho.wide (show w.heap.size ≤ w2.heap.size by have := G2.out.size; omega))
          clear hg ho
          go_wp2_with fail
          go_roundw
          case rel => exact ⟨k + 1, K', by omega, by go_num, O3.out, HS.out, HA.out, gb_trans G.out G3.out⟩
          case measure => simp [intOf]; omega
      · have tk : (y.kind == 2) = false := by simp [hkd]
        have HAP : Hid (M.apply K y = M.PutItem K y.item) := Lib.hid (by unfold M.apply; rw [if_pos (by have := HKX.out; omega)])
        rw [HAP.out] at HSTOP HNEXT HV'
        generalize M.PutItem K y.item = s at *
        clear hkd HAP
        obtain ⟨m, hm⟩ : ∃ m, m = K.length := ⟨_, rfl⟩
        rw [← hm] at HP ⊢
        have HM := Lib.hid hm
        clear hm
        have B1 := Lib.hid (Row.new wr 30 (ca := #[.int .i64 y.kind, .int .i64 y.item.key, .slice Au y.item.pos.length cu, .int .i64 y.item.tags]) rfl)
        go_wp2_with fail
        refine HP.out.mono ?_
        rintro e w2 ⟨A1, c1, rfl, _, ho, _, hg⟩
        have G2 := Lib.hid (gb_trans G1.out hg)
        have B2 := Lib.hid (B1.out.grown hg (by simp))
        have O2 := Lib.hid (ho.wide (show w.heap.size ≤ (wr.alloc (.cells #[.int .i64 y.kind, .int .i64 y.item.key, .slice Au y.item.pos.length cu, .int .i64 y.item.tags] 30)).heap.size by have := G1.out.size; omega))
        clear hg HP ho
        have b0 := B2.out.cell 0
        have b1 := B2.out.cell 1
        have b2 := B2.out.cell 2
        have b3 := B2.out.cell 3
        have bf0 := B2.out.frozen 0
        have bf1 := B2.out.frozen 1
        have bf2 := B2.out.frozen 2
        have bf3 := B2.out.frozen 3
        simp only [List.getElem?_cons_zero, List.getElem?_cons_succ] at b0 b1 b2 b3
        cases s with
        | none =>
          have HS := Lib.hid (HSTOP.out rfl)
          go_wp2_with fail
          go_ret2
          exact HM.out ▸ repMade_some HS.out HCV.out ((O.out.grown G2.out (by simp)).wide (Nat.le_refl _)) (gb_trans (gb_trans G0.out G.out) G2.out)
        | some K' =>
          have HA := Lib.hid (HNEXT.out K' rfl)
          have HS := Lib.hid (HV'.out K' rfl)
          go_wp2_with fail
          go_roundw
          case rel => exact ⟨k + 1, K', by omega, by go_num, O2.out, HS.out, HA.out, gb_trans G.out G2.out⟩
          case measure => simp [intOf]; omega
    · obtain rfl : k = n := by omega
      have HS := Lib.hid (At.done (HN.out ▸ HAT.out))
      rw [← HN.out] at HS
      obtain ⟨m, hm⟩ : ∃ m, m = K.length := ⟨_, rfl⟩
      rw [← hm]
      have HM := Lib.hid hm
      clear hm
      go_wp2_with fail
      go_ret2
      exact HM.out ▸ repMade_some HS.out HCV.out O.out (gb_trans G0.out G.out)
theorem ReplayLog_bad {L : List M.Item} {l : List M.Entry} (h : M.validStore L = false ∨ M.validLog l = false) : M.ReplayLog L l = ([], -1) := by
  unfold M.ReplayLog
  rw [if_neg]
  rintro ⟨h1, h2⟩
  rcases h with h | h
  · rw [h] at h1; cases h1
  · rw [h] at h2; cases h2
theorem ReplayLog_good {L : List M.Item} {l : List M.Entry} (h1 : M.validStore L = true) (h2 : M.validLog l = true) : M.ReplayLog L l = repInt (M.replay L l) := by
  unfold M.ReplayLog
  rw [if_pos ⟨h1, h2⟩]; rfl
set_option maxHeartbeats 2000000 in
theorem ReplayLog_spec {w : World} {A B : Option Addr} {c d : Nat} {L : List M.Item} {l : List M.Entry} (D : SeesI w A L) (E : SeesE w B l) :
    Calls Try.prog 70 #[.slice A L.length c, .slice B l.length d] w (RepMade w (M.ReplayLog L l)) := by
  have HD := Lib.hid D
  have HE := Lib.hid E
  have HV := Lib.hid (vs_spec (c := c) D)
  have HW : Hid (∀ W, w.grownBy W none → Calls Try.prog 86 #[.slice B l.length d] W fun e w' => e = .returned (.bool (M.validLog l)) ∧ W.grownBy w' none) := Lib.hid fun W hW => validLog_spec (E.on hW)
  clear D E
  cases hv : M.validStore L
  · have HY := Lib.hid (ReplayLog_bad (l := l) (.inl hv))
    rw [HY.out]
    rw [hv] at HV
    clear hv
    generalize L.length = m at *
    generalize l.length = n at *
    go_enter Try.func70, Try.ntmps70
    go_wp2_with fail
    refine HV.out.mono ?_
    rintro e w1 ⟨rfl, hg⟩
    have G := Lib.hid hg
    clear hg
    go_wp2_with fail
    go_ret2
    exact repMade_none rfl G.out
  · cases hvl : M.validLog l
    · have HY := Lib.hid (ReplayLog_bad (L := L) (.inr hvl))
      rw [HY.out]
      rw [hv] at HV
      rw [hvl] at HW
      clear hv hvl
      generalize L.length = m at *
      generalize l.length = n at *
      go_enter Try.func70, Try.ntmps70
      go_wp2_with fail
      refine HV.out.mono ?_
      rintro e w1 ⟨rfl, hg⟩
      have G := Lib.hid hg
      clear hg
      go_wp2_with fail
      refine (HW.out _ G.out).mono ?_
      rintro e w2 ⟨rfl, hg⟩
      replace G := Lib.hid (gb_trans G.out hg)
      clear hg
      go_wp2_with fail
      go_ret2
      exact repMade_none rfl G.out
    · have HY := Lib.hid (ReplayLog_good hv hvl)
      rw [HY.out]
      have HKD := Lib.hid (kind_of hvl)
      have hl16 := (M.validStore_of hv).1
      rw [hv] at HV
      rw [hvl] at HW
      clear hv hvl
      have hl := HE.out.2.1
      obtain ⟨n, hn⟩ : ∃ n, n = l.length := ⟨_, rfl⟩
      rw [← hn] at hl HW ⊢
      have HN := Lib.hid hn
      clear hn
      have HC : Hid (∀ W, w.grownBy W none → Calls Try.prog 95 #[.slice A L.length c] W fun e w' => ∃ v, e = .returned v ∧ OwnItems w' W.heap.size v L ∧ W.grownBy w' none) := Lib.hid fun W hW => copyStore_spec (HD.out.on hW) hl16
      generalize L.length = m at HV HC ⊢
      go_enter Try.func70, Try.ntmps70
      go_wp2_with fail
      refine HV.out.mono ?_
      rintro e w1 ⟨rfl, hg⟩
      have G := Lib.hid hg
      clear hg
      go_wp2_with fail
      refine (HW.out _ G.out).mono ?_
      rintro e w2 ⟨rfl, hg⟩
      replace G := Lib.hid (gb_trans G.out hg)
      clear hg
      go_wp2_with fail
      refine (HC.out _ G.out).mono ?_
      rintro e w0 ⟨v0, rfl, ho, hg⟩
      have G0 := Lib.hid (gb_trans G.out hg)
      have O0 := Lib.hid (ho.wide G.out.size)
      have hs0 := G0.out.size
      have DE := Lib.hid (HE.out.on G0.out)
      have HSM := Lib.hid HD.out.2
      clear ho hg HC HE HV HW G HD
      go_wp2_with fail
      go_loopw [6, 7] (fun v i wr => ∃ (k : Nat) (K : List M.Item), k ≤ n ∧ i = .int .i64 k ∧ OwnItems wr w.heap.size v K ∧ Small K ∧ At L l k K ∧ w0.grownBy wr none) (fun _ i _ => n - (intOf i).toNat)
      case atStart => exact ⟨0, L, Nat.zero_le _, rfl, O0.out, HSM.out, At.zero L l, gb_refl _ _⟩
      case round =>
        obtain ⟨k, K, hk, rfl, hown, hsm, hat, hg⟩ := hrel
        obtain ⟨Av, cv, hv, hcv, _⟩ := hown.rd
        subst hv
        have G := Lib.hid hg
        have O := Lib.hid hown
        have SM := Lib.hid hsm
        have HAT := Lib.hid hat
        have hszw := hg.size
        have HCV := Lib.hid hcv
        clear hown hsm hat hg O0 hcv
        by_cases hlt : k < n
        · have hkl : k < l.length := by rw [← HN.out]; exact hlt
          obtain ⟨b, o, rfl, hb1, hb2, hJ⟩ := DE.out.1.at_ (List.getElem?_eq_getElem hkl)
          obtain ⟨u, c0, c1, c2, c3, hu⟩ := hJ.agree hb1 hb2 (Agree.of_grown G.out)
          obtain ⟨Au, cu, rfl, hcu, hru⟩ := hu
          have HU := Lib.hid ((show RdInts .i64 wr 0 w0.heap.size (.slice Au l[k].item.pos.length cu) l[k].item.pos from ⟨_, _, rfl, hcu, hru⟩).wide (Nat.le_refl _) hszw)
          have hpl : l[k].item.pos.length ≤ 1048576 := DE.out.2.2 _ (List.getElem_mem hkl)
          have kn : (k : Int) < n := by omega
          have k0 : (0 : Int) ≤ k := by omega
          clear hJ hcu hru
          have HSTOP : Hid (M.apply K l[k] = none → repInt (M.replay L l) = (K, (k : Int))) := Lib.hid fun h => HAT.out.stop hkl h
          have HNEXT : Hid (∀ K', M.apply K l[k] = some K' → At L l (k + 1) K') := Lib.hid fun K' h => HAT.out.next hkl h
          have HV' : Hid (∀ K', M.apply K l[k] = some K' → Small K') := Lib.hid fun K' h => Small.of_valid (M.apply_valid h)
          generalize l[k] = y at *
          have HP : Hid (Calls Try.prog 96 #[.slice Av K.length cv, .agg #[.int .i64 y.kind, .int .i64 y.item.key, .slice Au y.item.pos.length cu, .int .i64 y.item.tags]] wr (PutGot wr (M.apply K y))) := Lib.hid ((apply_spec (O.out.sees SM.out) HU.out hpl).mono fun _ _ h => h.got)
          generalize M.apply K y = s at *
          obtain ⟨m, hm⟩ : ∃ m, m = K.length := ⟨_, rfl⟩
          rw [← hm] at HP ⊢
          have HM := Lib.hid hm
          clear hm
          cases s with
          | none =>
            have HS := Lib.hid (HSTOP.out rfl)
            go_wp2_with fail
            refine HP.out.mono ?_
            rintro e w2 ⟨A1, c1, rfl, _, _, _, hg⟩
            have G2 := Lib.hid hg
            clear hg HP
            go_wp2_with fail
            go_ret2
            exact HM.out ▸ repMade_some HS.out HCV.out ((O.out.grown G2.out (by simp)).wide (Nat.le_refl _)) (gb_trans (gb_trans G0.out G.out) G2.out)
          | some K' =>
            have HA := Lib.hid (HNEXT.out K' rfl)
            have HS := Lib.hid (HV'.out K' rfl)
            go_wp2_with fail
            refine HP.out.mono ?_
            rintro e w2 ⟨A1, c1, rfl, _, ho, _, hg⟩
            have G2 := Lib.hid hg
            have O2 := Lib.hid (ho.wide (show w.heap.size ≤ wr.heap.size by omega))
            clear hg HP ho
            go_wp2_with fail
            go_roundw
            case rel => exact ⟨k + 1, K', by omega, by go_num, O2.out, HS.out, HA.out, gb_trans G.out G2.out⟩
            case measure => simp [intOf]; omega
        · obtain rfl : k = n := by omega
          have HS := Lib.hid (At.done (HN.out ▸ HAT.out))
          rw [← HN.out] at HS
          obtain ⟨m, hm⟩ : ∃ m, m = K.length := ⟨_, rfl⟩
          rw [← hm]
          have HM := Lib.hid hm
          clear hm
          go_wp2_with fail
          go_ret2
          exact HM.out ▸ repMade_some HS.out HCV.out O.out (gb_trans G0.out G.out)
end Go.Proofs.Ythoakomccjjhbaa
