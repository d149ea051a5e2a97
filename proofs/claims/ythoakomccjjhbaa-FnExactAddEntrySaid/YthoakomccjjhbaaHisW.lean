/- The walks of what is a history. -/
import Derived.Test.YthoakomccjjhbaaRepL
namespace Go.Proofs.Ythoakomccjjhbaa
open Go.RowKit
set_option linter.unusedVariables false
set_option maxRecDepth 100000

/-- the log and the times of a history are seen -/
def SeesH (w : World) (A B : Option Addr) (h : M.Hist) : Prop := SeesE w A h.log ∧ SeesN .i64 w B h.times
theorem SeesH.on {w w' : World} {A B : Option Addr} {h : M.Hist} (D : SeesH w A B h) (hg : w.grownBy w' none) : SeesH w' A B h := ⟨D.1.on hg, D.2.on hg⟩
theorem valid_not1 {l : List M.Entry} {ts : List Int} (h : M.validLog l = false) : M.validHist ⟨l, ts⟩ = false := by
  unfold M.validHist; simp [h]
theorem valid_not2 {l : List M.Entry} {ts : List Int} (h : ts.length ≠ l.length) : M.validHist ⟨l, ts⟩ = false := by
  unfold M.validHist; simp [h]
theorem valid_not3 {l : List M.Entry} {ts : List Int} (h : M.timesOk ts = false) : M.validHist ⟨l, ts⟩ = false := by
  unfold M.validHist; simp [h]
theorem valid_rest {l : List M.Entry} {ts : List Int} (h1 : M.validLog l = true) (h2 : ts.length = l.length) (h3 : M.timesOk ts = true) : M.validHist ⟨l, ts⟩ = decide ((M.replay [] l).2 = l.length) := by
  unfold M.validHist; simp [h1, h2, h3]
theorem SeesI.none_ (w : World) (A : Option Addr) : SeesI w A [] := ⟨RdI.nil_ _ _ _ _, Small.nil_⟩
set_option maxHeartbeats 2000000 in
theorem isHistory_impl {w : World} {A B : Option Addr} {c d : Nat} {h : M.Hist} (D : SeesH w A B h) :
    Calls Try.prog 48 #[.agg #[.slice A h.log.length c, .slice B h.times.length d]] w fun e w' => e = .returned (.bool (M.validHist h)) ∧ w.grownBy w' none := by
  obtain ⟨l, ts⟩ := h
  obtain ⟨D, E⟩ := D
  have D : SeesE w A l := D
  have E : SeesN .i64 w B ts := E
  show Calls Try.prog 48 #[.agg #[.slice A l.length c, .slice B ts.length d]] w _
  have G0 := Lib.hid (World.grownBy_alloc w (.cells #[.slice A l.length c, .slice B ts.length d] 26) none)
  have B0 := Lib.hid (Row.new w 26 (ca := #[.slice A l.length c, .slice B ts.length d]) rfl)
  have HV := Lib.hid (isLog_impl (c := c) (D.on G0.out))
  have HD := Lib.hid D
  have HE := Lib.hid E
  have hl1 := D.2.1
  have hl2 := E.2
  clear D E
  cases hvl : M.validLog l
  · have HY := Lib.hid (valid_not1 (ts := ts) hvl)
    rw [hvl] at HV
    rw [HY.out]
    clear hvl
    generalize l.length = m at *
    generalize ts.length = n at *
    go_enter Try.func48, Try.ntmps48
    go_wp2_with fail
    refine HV.out.mono ?_
    rintro e w1 ⟨rfl, hg⟩
    have G := Lib.hid (gb_trans G0.out hg)
    have B1 := Lib.hid (B0.out.grown hg (by simp))
    clear hg
    have q0 := B1.out.cell 0
    have q1 := B1.out.cell 1
    simp only [List.getElem?_cons_zero, List.getElem?_cons_succ] at q0 q1
    go_wp2_with fail
    go_ret
    exact ⟨rfl, G.out⟩
  · have hl32 : l.length ≤ 32 := by have h := hvl; unfold M.validLog at h; simp at h; exact h.2
    have HVL := Lib.hid hvl
    rw [hvl] at HV
    clear hvl
    by_cases hlen : ts.length = l.length
    rotate_left
    · have HY := Lib.hid (valid_not2 hlen)
      rw [HY.out]
      have te : ((ts.length : Int) != (l.length : Int)) = true := by rw [bne_iff_ne]; omega
      clear hlen
      generalize l.length = m at *
      generalize ts.length = n at *
      go_enter Try.func48, Try.ntmps48
      go_wp2_with fail
      refine HV.out.mono ?_
      rintro e w1 ⟨rfl, hg⟩
      have G := Lib.hid (gb_trans G0.out hg)
      have B1 := Lib.hid (B0.out.grown hg (by simp))
      clear hg
      have q0 := B1.out.cell 0
      have q1 := B1.out.cell 1
      simp only [List.getElem?_cons_zero, List.getElem?_cons_succ] at q0 q1
      go_wp2_with fail
      go_ret
      exact ⟨rfl, G.out⟩
    · have HLEN := Lib.hid hlen
      have te : ((ts.length : Int) != (l.length : Int)) = false := by rw [hlen]; simp
      have hn32 : ts.length ≤ 32 := by omega
      obtain ⟨n, hn⟩ : ∃ n, n = ts.length := ⟨_, rfl⟩
      obtain ⟨m, hm⟩ : ∃ m, m = l.length := ⟨_, rfl⟩
      rw [← hn] at hn32 te hl2 B0 G0 HV
      rw [← hm] at hl32 te hl1 B0 G0 HV
      rw [← hn, ← hm]
      have HN := Lib.hid hn
      have HM := Lib.hid hm
      have HRC : Hid (∃ r : Nat, r = (M.replay [] l).2 ∧ r ≤ m) := Lib.hid ⟨_, rfl, hm ▸ M.replay_le l []⟩
      have HREST : Hid (M.timesOk ts = true → M.validHist ⟨l, ts⟩ = decide ((M.replay [] l).2 = m)) := Lib.hid fun h => hm ▸ valid_rest HVL.out hlen h
      clear hlen hn hm
      go_enter Try.func48, Try.ntmps48
      go_wp2_with fail
      refine HV.out.mono ?_
      rintro e w1 ⟨rfl, hg⟩
      have G := Lib.hid (gb_trans G0.out hg)
      have B1 := Lib.hid (B0.out.grown hg (by simp))
      clear hg HV B0 G0
      have q0 := B1.out.cell 0
      have q1 := B1.out.cell 1
      simp only [List.getElem?_cons_zero, List.getElem?_cons_succ] at q0 q1
      go_wp2_with fail
      have HR : Hid (∀ W, w.grownBy W none → Calls Try.prog 85 #[.slice none 0 0, .slice A m c] W (RepMade W (repInt (M.replay [] l)))) := Lib.hid fun W hW => by
        have e := replayLog_impl (A := none) (c := 0) (d := c) (SeesI.none_ W none) (HD.out.on hW) (kind_of HVL.out)
        rw [← HM.out] at e
        exact e
      go_loopw [23] (fun i wr => ∃ k : Nat, k ≤ n ∧ i = .int .i64 k ∧ M.tTo ts k = true ∧ Row wr w.heap.size 26 [.slice A m c, .slice B n d] ∧ w.grownBy wr none) (fun i _ => n - (intOf i).toNat)
      case atStart => exact ⟨0, Nat.zero_le _, rfl, rfl, B1.out, G.out⟩
      case round =>
        obtain ⟨k, hk, rfl, ha, hbox, hg⟩ := hrel
        have HA := Lib.hid ha
        have HG := Lib.hid hg
        have HB := Lib.hid hbox
        have q0 := hbox.cell 0
        have q1 := hbox.cell 1
        simp only [List.getElem?_cons_zero, List.getElem?_cons_succ] at q0 q1
        clear ha hg hbox B1 G
        by_cases hlt : k < n
        · have hkl : k < ts.length := by rw [← HN.out]; exact hlt
          obtain ⟨b, o, rfl, hb1, hb2, hC⟩ := (HE.out.on HG.out).1.at_ (j := k) (u := .int .i64 ts[k]) (by simp [hkl])
          have HNX := Lib.hid (M.tTo_succ ts k)
          have HS := Lib.hid (fun h => (valid_not3 (l := l) (M.tTo_stop (l := ts) hkl h)))
          have HEQ := Lib.hid (M.tAt_eq hkl)
          have kn : (k : Int) < n := by omega
          have k0 : (0 : Int) ≤ k := by omega
          have hC : wr.cell? ⟨b, o + k, none⟩ = some (.int .i64 ts[k]) := hC
          cases hv : M.inR ts[k] 1 1000
          · have HX := Lib.hid (HS.out (by rw [HEQ.out, hv]; rfl))
            have hr := M.inR_false hv
            clear hv HEQ HNX HS
            generalize ts[k] = x at *
            by_cases h1 : x < 1
            · go_wp2_with fail
              go_ret
              exact ⟨ret_bool HX.out.symm, HG.out⟩
            · have h2 : 1000 < x := by omega
              go_wp2_with fail
              go_ret
              exact ⟨ret_bool HX.out.symm, HG.out⟩
          · have hr := M.inR_true hv
            rw [hv] at HEQ
            have r1 : decide (ts[k] < 1) = false := decide_eq_false (by omega)
            have r2 : decide (1000 < ts[k]) = false := decide_eq_false (by omega)
            clear hv hr
            by_cases hk0 : k = 0
            · have tk : decide (0 < (k : Int)) = false := by simp [hk0]
              have tk' : decide (0 < k) = false := by simp [hk0]
              have HX := Lib.hid (show M.tTo ts (k + 1) = true by rw [HNX.out, HA.out, HEQ.out, show (k == 0) = true by simp [hk0]]; rfl)
              clear HEQ HNX HS hk0
              generalize ts[k] = x at *
              go_wp2_with fail
              go_roundw
              case rel => exact ⟨k + 1, by omega, by go_num, HX.out, HB.out, HG.out⟩
              case measure => simp [intOf]; omega
            · have tk : decide (0 < (k : Int)) = true := by simp; omega
              have tk' : decide (0 < k) = true := by simp; omega
              obtain ⟨j, hj⟩ : ∃ j, k = j + 1 := ⟨k - 1, by omega⟩
              have hjl : j < ts.length := by omega
              obtain ⟨b', o', he', _, _, hC'⟩ := (HE.out.on HG.out).1.at_ (j := j) (u := .int .i64 ts[j]) (by simp [hjl])
              simp only [Option.some.injEq, Addr.mk.injEq, and_true] at he'
              obtain ⟨rfl, rfl⟩ := he'
              have hpz : (ts[k - 1]'(by omega)) = ts[j] := by congr 1; omega
              rw [hpz] at HEQ
              have kj : (k : Int) - 1 = (j : Int) := by omega
              have HJ := Lib.hid hj
              clear hpz hj
              have wj : IntKind.i64.wrap ((k : Int) - 1) = (j : Int) := by rw [kj]; exact IntWalk.i64_in _ (by omega)
              have jn : (j : Int) < n := by omega
              have j0 : (0 : Int) ≤ j := by omega
              have hke : (k == 0) = false := by rw [HJ.out]; rfl
              rw [hke] at HEQ
              clear hke
              by_cases hlt2 : ts[k] < ts[j]
              · have HX := Lib.hid (HS.out (by rw [HEQ.out, decide_eq_false (by omega)]; rfl))
                have t2 : decide (ts[k] < ts[j]) = true := decide_eq_true hlt2
                clear HEQ HNX HS hlt2
                generalize ts[k] = x at *
                generalize ts[j] = y at *
                go_wp2_with fail
                go_ret
                exact ⟨ret_bool HX.out.symm, HG.out⟩
              · have HX := Lib.hid (show M.tTo ts (k + 1) = true by rw [HNX.out, HA.out, HEQ.out, decide_eq_true (by omega)]; rfl)
                have t2 : decide (ts[k] < ts[j]) = false := decide_eq_false hlt2
                clear HEQ HNX HS hlt2
                generalize ts[k] = x at *
                generalize ts[j] = y at *
                go_wp2_with fail
                go_roundw
                case rel => exact ⟨k + 1, by omega, by go_num, HX.out, HB.out, HG.out⟩
                case measure => simp [intOf]; omega
        · obtain rfl : k = n := by omega
          have HT := Lib.hid (HREST.out (by unfold M.timesOk; rw [← HN.out]; exact HA.out))
          obtain ⟨r, hr, hrm⟩ := HRC.out
          have HRR := Lib.hid hr
          clear hr
          go_wp2_with fail
          refine (HR.out _ HG.out).mono ?_
          rintro e w2 ⟨A2, c2, rfl, hc2, ho, hg⟩
          have e2 : (repInt (M.replay [] l)).2 = (r : Int) := by rw [HRR.out]; rfl
          rw [e2]
          have G2 := Lib.hid (gb_trans HG.out hg)
          have B2 := Lib.hid (HB.out.grown hg (by simp))
          clear hg ho hc2 e2 q0 q1
          generalize (repInt (M.replay [] l)).1.length = z
          have q0 := B2.out.cell 0
          have q1 := B2.out.cell 1
          simp only [List.getElem?_cons_zero, List.getElem?_cons_succ] at q0 q1
          by_cases hrm' : r = m
          · have tr : ((r : Int) == (m : Int)) = true := by rw [hrm']; simp
            have HDD : Hid (decide (r = m) = true) := Lib.hid (decide_eq_true hrm')
            clear hrm'
            go_wp2_with fail
            go_ret
            exact ⟨ret_bool (by rw [HT.out, ← HRR.out, HDD.out]), G2.out⟩
          · have tr : ((r : Int) == (m : Int)) = false := by rw [beq_eq_false_iff_ne]; omega
            have HDD : Hid (decide (r = m) = false) := Lib.hid (decide_eq_false hrm')
            clear hrm'
            go_wp2_with fail
            go_ret
            exact ⟨ret_bool (by rw [HT.out, ← HRR.out, HDD.out]), G2.out⟩
set_option maxHeartbeats 2000000 in
theorem validHistory_spec {w : World} {A B : Option Addr} {c d : Nat} {h : M.Hist} (D : SeesH w A B h) :
    Calls Try.prog 51 #[.agg #[.slice A h.log.length c, .slice B h.times.length d]] w fun e w' => e = .returned (.bool (M.validHist h)) ∧ w.grownBy w' none := by
  obtain ⟨l, ts⟩ := h
  obtain ⟨D, E⟩ := D
  have D : SeesE w A l := D
  have E : SeesN .i64 w B ts := E
  show Calls Try.prog 51 #[.agg #[.slice A l.length c, .slice B ts.length d]] w _
  have G0 := Lib.hid (World.grownBy_alloc w (.cells #[.slice A l.length c, .slice B ts.length d] 26) none)
  have B0 := Lib.hid (Row.new w 26 (ca := #[.slice A l.length c, .slice B ts.length d]) rfl)
  have HV := Lib.hid (validLog_spec (c := c) (D.on G0.out))
  have HD := Lib.hid D
  have HE := Lib.hid E
  have hl1 := D.2.1
  have hl2 := E.2
  clear D E
  cases hvl : M.validLog l
  · have HY := Lib.hid (valid_not1 (ts := ts) hvl)
    rw [hvl] at HV
    rw [HY.out]
    clear hvl
    generalize l.length = m at *
    generalize ts.length = n at *
    go_enter Try.func51, Try.ntmps51
    go_wp2_with fail
    refine HV.out.mono ?_
    rintro e w1 ⟨rfl, hg⟩
    have G := Lib.hid (gb_trans G0.out hg)
    have B1 := Lib.hid (B0.out.grown hg (by simp))
    clear hg
    have q0 := B1.out.cell 0
    have q1 := B1.out.cell 1
    simp only [List.getElem?_cons_zero, List.getElem?_cons_succ] at q0 q1
    go_wp2_with fail
    go_ret
    exact ⟨rfl, G.out⟩
  · have hl32 : l.length ≤ 32 := by have h := hvl; unfold M.validLog at h; simp at h; exact h.2
    have HVL := Lib.hid hvl
    rw [hvl] at HV
    clear hvl
    by_cases hlen : ts.length = l.length
    rotate_left
    · have HY := Lib.hid (valid_not2 hlen)
      rw [HY.out]
      have te : ((ts.length : Int) != (l.length : Int)) = true := by rw [bne_iff_ne]; omega
      clear hlen
      generalize l.length = m at *
      generalize ts.length = n at *
      go_enter Try.func51, Try.ntmps51
      go_wp2_with fail
      refine HV.out.mono ?_
      rintro e w1 ⟨rfl, hg⟩
      have G := Lib.hid (gb_trans G0.out hg)
      have B1 := Lib.hid (B0.out.grown hg (by simp))
      clear hg
      have q0 := B1.out.cell 0
      have q1 := B1.out.cell 1
      simp only [List.getElem?_cons_zero, List.getElem?_cons_succ] at q0 q1
      go_wp2_with fail
      go_ret
      exact ⟨rfl, G.out⟩
    · have HLEN := Lib.hid hlen
      have te : ((ts.length : Int) != (l.length : Int)) = false := by rw [hlen]; simp
      have hn32 : ts.length ≤ 32 := by omega
      obtain ⟨n, hn⟩ : ∃ n, n = ts.length := ⟨_, rfl⟩
      obtain ⟨m, hm⟩ : ∃ m, m = l.length := ⟨_, rfl⟩
      rw [← hn] at hn32 te hl2 B0 G0 HV
      rw [← hm] at hl32 te hl1 B0 G0 HV
      rw [← hn, ← hm]
      have HN := Lib.hid hn
      have HM := Lib.hid hm
      have HRC : Hid (∃ r : Nat, r = (M.replay [] l).2 ∧ r ≤ m) := Lib.hid ⟨_, rfl, hm ▸ M.replay_le l []⟩
      have HREST : Hid (M.timesOk ts = true → M.validHist ⟨l, ts⟩ = decide ((M.replay [] l).2 = m)) := Lib.hid fun h => hm ▸ valid_rest HVL.out hlen h
      clear hlen hn hm
      go_enter Try.func51, Try.ntmps51
      go_wp2_with fail
      refine HV.out.mono ?_
      rintro e w1 ⟨rfl, hg⟩
      have G := Lib.hid (gb_trans G0.out hg)
      have B1 := Lib.hid (B0.out.grown hg (by simp))
      clear hg HV B0 G0
      have q0 := B1.out.cell 0
      have q1 := B1.out.cell 1
      simp only [List.getElem?_cons_zero, List.getElem?_cons_succ] at q0 q1
      go_wp2_with fail
      have HR : Hid (∀ W A', w.grownBy W none → Calls Try.prog 70 #[.slice A' 0 0, .slice A m c] W (RepMade W (repInt (M.replay [] l)))) := Lib.hid fun W A' hW => by
        have e := ReplayLog_spec (A := A') (c := 0) (d := c) (SeesI.none_ W A') (HD.out.on hW)
        rw [ReplayLog_good M.valid_nil HVL.out, ← HM.out] at e
        exact e
      have HIR : Hid (∀ W x, Calls Try.prog 61 #[.int .i64 x, .int .i64 1, .int .i64 1000] W fun e w' => e = .returned (.bool (M.inR x 1 1000)) ∧ W = w') := Lib.hid fun W x => inRange_any _ _ _ _
      go_loopw [3] (fun i wr => ∃ k : Nat, k ≤ n ∧ i = .int .i64 k ∧ M.tTo ts k = true ∧ Row wr w.heap.size 26 [.slice A m c, .slice B n d] ∧ w.grownBy wr none) (fun i _ => n - (intOf i).toNat)
      case atStart => exact ⟨0, Nat.zero_le _, rfl, rfl, B1.out, G.out⟩
      case round =>
        obtain ⟨k, hk, rfl, ha, hbox, hg⟩ := hrel
        have HA := Lib.hid ha
        have HG := Lib.hid hg
        have HB := Lib.hid hbox
        have q0 := hbox.cell 0
        have q1 := hbox.cell 1
        simp only [List.getElem?_cons_zero, List.getElem?_cons_succ] at q0 q1
        clear ha hg hbox B1 G
        by_cases hlt : k < n
        · have hkl : k < ts.length := by rw [← HN.out]; exact hlt
          obtain ⟨b, o, rfl, hb1, hb2, hC⟩ := (HE.out.on HG.out).1.at_ (j := k) (u := .int .i64 ts[k]) (by simp [hkl])
          have HNX := Lib.hid (M.tTo_succ ts k)
          have HS := Lib.hid (fun h => (valid_not3 (l := l) (M.tTo_stop (l := ts) hkl h)))
          have HEQ := Lib.hid (M.tAt_eq hkl)
          have kn : (k : Int) < n := by omega
          have k0 : (0 : Int) ≤ k := by omega
          have l0 : ∀ x : Later wr, x.w.cell? ⟨w.heap.size, 0, none⟩ = some (.slice A m c) := fun x => x.cell q0
          have l1 : ∀ x : Later wr, x.w.cell? ⟨w.heap.size, 1, none⟩ = some (.slice (some ⟨b, o, none⟩) n d) := fun x => x.cell q1
          have l2 : ∀ x : Later wr, x.w.cell? ⟨b, o + k, none⟩ = some (.int .i64 ts[k]) := fun x => x.cell hC
          have HIX := Lib.hid (fun W => HIR.out W ts[k])
          clear hC
          cases hv : M.inR ts[k] 1 1000
          · have HX := Lib.hid (HS.out (by rw [HEQ.out, hv]; rfl))
            rw [hv] at HIX
            clear hv HEQ HNX HS
            generalize ts[k] = x at *
            go_wp2_with fail
            refine wp_region_later (by kernel_rfl) (by kernel_rfl) ?_
            repeat (go_big_quiet_step ((go_at_call 61; exact later_same (HIX.out _))))
            refine wpQuiet_nil ?_
            rintro _ ⟨x, rfl⟩
            go_wp2_with fail
            go_ret
            exact ⟨ret_bool HX.out.symm, gb_trans HG.out x.h⟩
          · rw [hv] at HEQ HIX
            clear hv
            by_cases hk0 : k = 0
            · have tk : decide (0 < (k : Int)) = false := by simp [hk0]
              have tk' : decide (0 < k) = false := by simp [hk0]
              have HX := Lib.hid (show M.tTo ts (k + 1) = true by rw [HNX.out, HA.out, HEQ.out, show (k == 0) = true by simp [hk0]]; rfl)
              clear HEQ HNX HS hk0
              generalize ts[k] = x at *
              go_wp2_with fail
              refine wp_region_later (by kernel_rfl) (by kernel_rfl) ?_
              repeat (go_big_quiet_step ((go_at_call 61; exact later_same (HIX.out _))))
              refine wpQuiet_nil ?_
              rintro _ ⟨x, rfl⟩
              go_wp2_with fail
              go_roundw
              case rel => exact ⟨k + 1, by omega, by go_num, HX.out, HB.out.grown x.h (by simp), gb_trans HG.out x.h⟩
              case measure => simp [intOf]; omega
            · have tk : decide (0 < (k : Int)) = true := by simp; omega
              have tk' : decide (0 < k) = true := by simp; omega
              obtain ⟨j, hj⟩ : ∃ j, k = j + 1 := ⟨k - 1, by omega⟩
              have hjl : j < ts.length := by omega
              obtain ⟨b', o', he', _, _, hC'⟩ := (HE.out.on HG.out).1.at_ (j := j) (u := .int .i64 ts[j]) (by simp [hjl])
              simp only [Option.some.injEq, Addr.mk.injEq, and_true] at he'
              obtain ⟨rfl, rfl⟩ := he'
              have hpz : (ts[k - 1]'(by omega)) = ts[j] := by congr 1; omega
              rw [hpz] at HEQ
              have kj : (k : Int) - 1 = (j : Int) := by omega
              have HJ := Lib.hid hj
              clear hpz hj
              have wj : IntKind.i64.wrap ((k : Int) - 1) = (j : Int) := by rw [kj]; exact IntWalk.i64_in _ (by omega)
              have jn : (j : Int) < n := by omega
              have j0 : (0 : Int) ≤ j := by omega
              have hke : (k == 0) = false := by rw [HJ.out]; rfl
              rw [hke] at HEQ
              clear hke
              have l3 : ∀ x : Later wr, x.w.cell? ⟨b, o + j, none⟩ = some (.int .i64 ts[j]) := fun x => x.cell hC'
              clear hC'
              by_cases hlt2 : ts[k] < ts[j]
              · have HX := Lib.hid (HS.out (by rw [HEQ.out, decide_eq_false (by omega)]; rfl))
                have t2 : decide (ts[k] < ts[j]) = true := decide_eq_true hlt2
                clear HEQ HNX HS hlt2
                generalize ts[k] = x at *
                generalize ts[j] = y at *
                go_wp2_with fail
                refine wp_region_later (by kernel_rfl) (by kernel_rfl) ?_
                repeat (go_big_quiet_step ((go_at_call 61; exact later_same (HIX.out _))))
                refine wpQuiet_nil ?_
                rintro _ ⟨x, rfl⟩
                go_wp2_with fail
                go_ret
                exact ⟨ret_bool HX.out.symm, gb_trans HG.out x.h⟩
              · have HX := Lib.hid (show M.tTo ts (k + 1) = true by rw [HNX.out, HA.out, HEQ.out, decide_eq_true (by omega)]; rfl)
                have t2 : decide (ts[k] < ts[j]) = false := decide_eq_false hlt2
                clear HEQ HNX HS hlt2
                generalize ts[k] = x at *
                generalize ts[j] = y at *
                go_wp2_with fail
                refine wp_region_later (by kernel_rfl) (by kernel_rfl) ?_
                repeat (go_big_quiet_step ((go_at_call 61; exact later_same (HIX.out _))))
                refine wpQuiet_nil ?_
                rintro _ ⟨x, rfl⟩
                go_wp2_with fail
                go_roundw
                case rel => exact ⟨k + 1, by omega, by go_num, HX.out, HB.out.grown x.h (by simp), gb_trans HG.out x.h⟩
                case measure => simp [intOf]; omega
        · obtain rfl : k = n := by omega
          have HT := Lib.hid (HREST.out (by unfold M.timesOk; rw [← HN.out]; exact HA.out))
          obtain ⟨r, hr, hrm⟩ := HRC.out
          have HRR := Lib.hid hr
          clear hr
          have GA := Lib.hid (World.grownBy_alloc wr (.cells #[] 28) none)
          have HB' := Lib.hid (HB.out.alloc (.cells #[] 28))
          have p0 := HB'.out.cell 0
          have p1 := HB'.out.cell 1
          simp only [List.getElem?_cons_zero, List.getElem?_cons_succ] at p0 p1
          go_wp2_with fail
          refine (HR.out _ _ (gb_trans HG.out GA.out)).mono ?_
          rintro e w2 ⟨A2, c2, rfl, hc2, ho, hg⟩
          have e2 : (repInt (M.replay [] l)).2 = (r : Int) := by rw [HRR.out]; rfl
          rw [e2]
          have G2 := Lib.hid (gb_trans (gb_trans HG.out GA.out) hg)
          have B2 := Lib.hid (HB'.out.grown hg (by simp))
          clear hg ho hc2 e2 q0 q1 p0 p1
          generalize (repInt (M.replay [] l)).1.length = z
          have q0 := B2.out.cell 0
          have q1 := B2.out.cell 1
          simp only [List.getElem?_cons_zero, List.getElem?_cons_succ] at q0 q1
          by_cases hrm' : r = m
          · have tr : ((r : Int) == (m : Int)) = true := by rw [hrm']; simp
            have HDD : Hid (decide (r = m) = true) := Lib.hid (decide_eq_true hrm')
            clear hrm'
            go_wp2_with fail
            go_ret
            exact ⟨ret_bool (by rw [HT.out, ← HRR.out, HDD.out]), G2.out⟩
          · have tr : ((r : Int) == (m : Int)) = false := by rw [beq_eq_false_iff_ne]; omega
            have HDD : Hid (decide (r = m) = false) := Lib.hid (decide_eq_false hrm')
            clear hrm'
            go_wp2_with fail
            go_ret
            exact ⟨ret_bool (by rw [HT.out, ← HRR.out, HDD.out]), G2.out⟩
theorem ValidHistory_impl {w : World} {A B : Option Addr} {c d : Nat} {h : M.Hist} (D : SeesH w A B h) :
    Calls Try.prog 19 #[.agg #[.slice A h.log.length c, .slice B h.times.length d]] w fun e w' => e = .returned (.bool (M.validHist h)) ∧ w.grownBy w' none := by
  have HC := Lib.hid (isHistory_impl (c := c) (d := d) (D.on (World.grownBy_alloc w (.cells #[.slice A h.log.length c, .slice B h.times.length d] 26) none)))
  clear D
  generalize h.log.length = m at *
  generalize h.times.length = n at *
  go_enter Try.func19, Try.ntmps19
  go_wp2_with fail
  refine HC.out.mono ?_
  rintro e w1 ⟨rfl, hg⟩
  have G := Lib.hid (gb_trans (World.grownBy_alloc w _ none) hg)
  clear hg
  go_wp2_with fail
  go_ret
  exact ⟨rfl, G.out⟩
end Go.Proofs.Ythoakomccjjhbaa
