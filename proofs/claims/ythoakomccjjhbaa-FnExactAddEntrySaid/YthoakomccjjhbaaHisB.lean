/- The walks of histories rolled back and added to. -/
import Derived.Test.YthoakomccjjhbaaHisA
namespace Go.Proofs.Ythoakomccjjhbaa
open Go.RowKit
set_option linter.unusedVariables false
set_option linter.unusedSimpArgs false
set_option maxRecDepth 100000

/-- a history is handed back, or none -/
def HisOpt (w : World) (r : Option M.Hist) (e : Ending) (w' : World) : Prop :=
  ∃ A c B d, e = .returned (.tuple #[.agg #[.slice A (r.getD ⟨[], []⟩).log.length c, .slice B (r.getD ⟨[], []⟩).times.length d], .bool r.isSome]) ∧ (r.getD ⟨[], []⟩).log.length ≤ c ∧ (r.getD ⟨[], []⟩).times.length ≤ d ∧
    OwnH w' w.heap.size (.slice A (r.getD ⟨[], []⟩).log.length c) (.slice B (r.getD ⟨[], []⟩).times.length d) (r.getD ⟨[], []⟩).log (r.getD ⟨[], []⟩).times ∧ w.grownBy w' none
theorem hisOpt_none {w w' : World} {r : Option M.Hist} (hr : r = none) (h : w.grownBy w' none) : HisOpt w r (.returned (.tuple #[.agg #[.slice none 0 0, .slice none 0 0], .bool false])) w' := by
  subst hr
  exact ⟨none, 0, none, 0, rfl, Nat.le_refl _, Nat.le_refl _, OwnH.nil_ _ _, h⟩
theorem hisOpt_some {w w' : World} {r : Option M.Hist} {h : M.Hist} {A B : Option Addr} {c d : Nat} (hr : r = some h) (h1 : h.log.length ≤ c) (h2 : h.times.length ≤ d) (ho : OwnH w' w.heap.size (.slice A h.log.length c) (.slice B h.times.length d) h.log h.times) (hg : w.grownBy w' none) :
    HisOpt w r (.returned (.tuple #[.agg #[.slice A h.log.length c, .slice B h.times.length d], .bool true])) w' := by
  subst hr
  exact ⟨A, c, B, d, rfl, h1, h2, ho, hg⟩
theorem two_boxes (w : World) (x y : Value) : Row ((w.alloc (.cells #[x, y] 26)).alloc (.cells #[.slice none 0 0, .slice none 0 0] 26)) w.heap.size 26 [x, y] ∧
    Row ((w.alloc (.cells #[x, y] 26)).alloc (.cells #[.slice none 0 0, .slice none 0 0] 26)) (w.heap.size + 1) 26 [.slice none 0 0, .slice none 0 0] ∧
    w.grownBy ((w.alloc (.cells #[x, y] 26)).alloc (.cells #[.slice none 0 0, .slice none 0 0] 26)) none := by
  refine ⟨(Row.new w _ rfl).alloc _, ?_, gb_alloc (gb_alloc (gb_refl _ _) _) _⟩
  have := Row.new (w.alloc (.cells #[x, y] 26)) 26 (ca := #[.slice none 0 0, .slice none 0 0]) rfl
  simpa using this
set_option maxHeartbeats 2000000 in
theorem RollBack_impl {w : World} {A B : Option Addr} {c d : Nat} {h : M.Hist} {t : Int} (D : SeesH w A B h) (hd : h.times.length ≤ d) :
    Calls Try.prog 21 #[.agg #[.slice A h.log.length c, .slice B h.times.length d], .int .i64 t] w (HisOpt w (M.RollBack h t)) := by
  obtain ⟨rb0, rb1, gb0⟩ := two_boxes w (.slice A h.log.length c) (.slice B h.times.length d)
  have RB0 := Lib.hid rb0
  have RB1 := Lib.hid rb1
  have GB := Lib.hid gb0
  clear rb0 rb1 gb0
  have HV : Hid (∀ W, w.grownBy W none → Calls Try.prog 48 #[.agg #[.slice A h.log.length c, .slice B h.times.length d]] W fun e w' => e = .returned (.bool (M.validHist h)) ∧ W.grownBy w' none) := Lib.hid fun W hW => isHistory_impl (D.on hW)
  cases hv : M.validHist h
  · have HY : Hid (M.RollBack h t = none) := Lib.hid (by unfold M.RollBack; rw [hv]; simp)
    rw [hv] at HV
    clear hv D hd
    generalize h.log.length = m at *
    generalize h.times.length = n at *
    go_enter Try.func21, Try.ntmps21
    go_wp2_with fail
    refine (HV.out _ GB.out).mono ?_
    rintro e w1 ⟨rfl, hg⟩
    have G := Lib.hid (gb_trans GB.out hg)
    have R0 := Lib.hid (RB0.out.grown hg (by simp))
    have R1 := Lib.hid (RB1.out.grown hg (by simp))
    clear hg
    have q0 := R0.out.cell 0
    have q1 := R0.out.cell 1
    simp only [List.getElem?_cons_zero, List.getElem?_cons_succ] at q0 q1
    have g0 := R1.out.cell 0
    have g1 := R1.out.cell 1
    have f0 := R1.out.frozen 0
    have f1 := R1.out.frozen 1
    simp only [List.getElem?_cons_zero, List.getElem?_cons_succ] at g0 g1
    go_wp2_with fail
    refine bodyPost_ret (v := .tuple #[.agg #[.slice none 0 0, .slice none 0 0], .bool false]) (by simp [results, Try.results21, go_sem, g0, g1]) rfl (hisOpt_none HY.out ?_)
    repeat (with_reducible refine gb_setCell (p := ⟨_, _, none⟩) ?_ (.inl (by show _ ≤ w.heap.size + 1; omega)) _)
    exact G.out
  · rw [hv] at HV
    by_cases ht : 0 ≤ t ∧ t ≤ 1000
    · obtain ⟨ht0, ht1⟩ := ht
      obtain ⟨z1, z2, z3, z4⟩ := hist_facts hv
      have HY : Hid (M.RollBack h t = some (M.takeH h (M.upTo h.times t))) := Lib.hid (by unfold M.RollBack; rw [if_pos ⟨hv, M.inR_of ht0 ht1⟩])
      have HC : Hid (∀ W, w.grownBy W none → Calls Try.prog 49 #[.agg #[.slice A h.log.length c, .slice B h.times.length d], .int .i64 t] W fun e w' => ∃ v, e = .returned v ∧ HisMade W W.heap.size (M.takeH h (M.upTo h.times t)) v w') := Lib.hid fun W hW => until_impl (D.on hW) z1 z2 z3 hd
      clear hv D hd z1 z2 z3 z4
      generalize h.log.length = m at *
      generalize h.times.length = n at *
      go_enter Try.func21, Try.ntmps21
      go_wp2_with fail
      refine (HV.out _ GB.out).mono ?_
      rintro e w1 ⟨rfl, hg⟩
      have G := Lib.hid (gb_trans GB.out hg)
      have R0 := Lib.hid (RB0.out.grown hg (by simp))
      have R1 := Lib.hid (RB1.out.grown hg (by simp))
      clear hg
      have q0 := R0.out.cell 0
      have q1 := R0.out.cell 1
      simp only [List.getElem?_cons_zero, List.getElem?_cons_succ] at q0 q1
      have g0 := R1.out.cell 0
      have g1 := R1.out.cell 1
      have f0 := R1.out.frozen 0
      have f1 := R1.out.frozen 1
      simp only [List.getElem?_cons_zero, List.getElem?_cons_succ] at g0 g1
      go_wp2_with fail
      refine (HC.out _ G.out).mono ?_
      rintro e w2 ⟨v, rfl, A1, c1, B1, d1, rfl, hc1, hd1, ho, hg⟩
      have hs1 := G.out.size
      have hlt := R1.out.lt
      have G2 := Lib.hid (gb_trans G.out hg)
      have R2 := Lib.hid (R1.out.grown hg (by simp))
      have O2 := Lib.hid ho
      have H1 := Lib.hid hc1
      have H2 := Lib.hid hd1
      clear hc1 hd1 ho hg g0 g1 f0 f1 q0 q1
      generalize M.takeH h (M.upTo h.times t) = h' at *
      have g0 := R2.out.cell 0
      have g1 := R2.out.cell 1
      have f0 := R2.out.frozen 0
      have f1 := R2.out.frozen 1
      simp only [List.getElem?_cons_zero, List.getElem?_cons_succ] at g0 g1
      go_wp2_with fail
      refine bodyPost_ret (v := .tuple #[.agg #[.slice A1 h'.log.length c1, .slice B1 h'.times.length d1], .bool true]) (by simp [results, Try.results21, go_sem, g0, g1]) rfl (hisOpt_some HY.out H1.out H2.out ?_ ?_)
      · refine OwnH.wide (lo := w1.heap.size) ?_ (by omega)
        repeat (with_reducible refine OwnH.set_ (p := ⟨_, _, none⟩) ?_ (by show w.heap.size + 1 < _; omega) _)
        exact O2.out
      · repeat (with_reducible refine gb_setCell (p := ⟨_, _, none⟩) ?_ (.inl (by show _ ≤ w.heap.size + 1; omega)) _)
        exact G2.out
    · have HY : Hid (M.RollBack h t = none) := Lib.hid (by
        unfold M.RollBack
        rw [if_neg]
        rintro ⟨_, h2⟩
        exact ht (M.inR_true h2))
      clear hv D hd
      generalize h.log.length = m at *
      generalize h.times.length = n at *
      by_cases h0 : t < 0
      · have t0 : decide (t < 0) = true := decide_eq_true h0
        clear ht
        go_enter Try.func21, Try.ntmps21
        go_wp2_with fail
        refine (HV.out _ GB.out).mono ?_
        rintro e w1 ⟨rfl, hg⟩
        have G := Lib.hid (gb_trans GB.out hg)
        have R0 := Lib.hid (RB0.out.grown hg (by simp))
        have R1 := Lib.hid (RB1.out.grown hg (by simp))
        clear hg
        have q0 := R0.out.cell 0
        have q1 := R0.out.cell 1
        simp only [List.getElem?_cons_zero, List.getElem?_cons_succ] at q0 q1
        have g0 := R1.out.cell 0
        have g1 := R1.out.cell 1
        have f0 := R1.out.frozen 0
        have f1 := R1.out.frozen 1
        simp only [List.getElem?_cons_zero, List.getElem?_cons_succ] at g0 g1
        go_wp2_with fail
        refine bodyPost_ret (v := .tuple #[.agg #[.slice none 0 0, .slice none 0 0], .bool false]) (by simp [results, Try.results21, go_sem, g0, g1]) rfl (hisOpt_none HY.out ?_)
        repeat (with_reducible refine gb_setCell (p := ⟨_, _, none⟩) ?_ (.inl (by show _ ≤ w.heap.size + 1; omega)) _)
        exact G.out
      · have h1 : 1000 < t := by omega
        have t0 : decide (t < 0) = false := decide_eq_false h0
        have t1 : decide (1000 < t) = true := decide_eq_true h1
        clear ht
        go_enter Try.func21, Try.ntmps21
        go_wp2_with fail
        refine (HV.out _ GB.out).mono ?_
        rintro e w1 ⟨rfl, hg⟩
        have G := Lib.hid (gb_trans GB.out hg)
        have R0 := Lib.hid (RB0.out.grown hg (by simp))
        have R1 := Lib.hid (RB1.out.grown hg (by simp))
        clear hg
        have q0 := R0.out.cell 0
        have q1 := R0.out.cell 1
        simp only [List.getElem?_cons_zero, List.getElem?_cons_succ] at q0 q1
        have g0 := R1.out.cell 0
        have g1 := R1.out.cell 1
        have f0 := R1.out.frozen 0
        have f1 := R1.out.frozen 1
        simp only [List.getElem?_cons_zero, List.getElem?_cons_succ] at g0 g1
        go_wp2_with fail
        refine bodyPost_ret (v := .tuple #[.agg #[.slice none 0 0, .slice none 0 0], .bool false]) (by simp [results, Try.results21, go_sem, g0, g1]) rfl (hisOpt_none HY.out ?_)
        repeat (with_reducible refine gb_setCell (p := ⟨_, _, none⟩) ?_ (.inl (by show _ ≤ w.heap.size + 1; omega)) _)
        exact G.out
set_option maxHeartbeats 2000000 in
theorem RollBack_spec {w : World} {A B : Option Addr} {c d : Nat} {h : M.Hist} {t : Int} (D : SeesH w A B h) (hd : h.times.length ≤ d) :
    Calls Try.prog 22 #[.agg #[.slice A h.log.length c, .slice B h.times.length d], .int .i64 t] w (HisOpt w (M.RollBack h t)) := by
  obtain ⟨rb0, rb1, gb0⟩ := two_boxes w (.slice A h.log.length c) (.slice B h.times.length d)
  have RB0 := Lib.hid rb0
  have RB1 := Lib.hid rb1
  have GB := Lib.hid gb0
  clear rb0 rb1 gb0
  have HV : Hid (∀ W, w.grownBy W none → Calls Try.prog 51 #[.agg #[.slice A h.log.length c, .slice B h.times.length d]] W fun e w' => e = .returned (.bool (M.validHist h)) ∧ W.grownBy w' none) := Lib.hid fun W hW => validHistory_spec (D.on hW)
  have HIR : Hid (∀ W, Calls Try.prog 61 #[.int .i64 t, .int .i64 0, .int .i64 1000] W fun e w' => e = .returned (.bool (M.inR t 0 1000)) ∧ W = w') := Lib.hid fun W => inRange_any _ _ _ _
  cases hv : M.validHist h
  · have HY : Hid (M.RollBack h t = none) := Lib.hid (by unfold M.RollBack; rw [hv]; simp)
    rw [hv] at HV
    clear hv D hd
    generalize h.log.length = m at *
    generalize h.times.length = n at *
    go_enter Try.func22, Try.ntmps22
    go_wp2_with fail
    refine (HV.out _ GB.out).mono ?_
    rintro e w1 ⟨rfl, hg⟩
    have G := Lib.hid (gb_trans GB.out hg)
    have R0 := Lib.hid (RB0.out.grown hg (by simp))
    have R1 := Lib.hid (RB1.out.grown hg (by simp))
    clear hg
    have q0 := R0.out.cell 0
    have q1 := R0.out.cell 1
    simp only [List.getElem?_cons_zero, List.getElem?_cons_succ] at q0 q1
    have g0 := R1.out.cell 0
    have g1 := R1.out.cell 1
    have f0 := R1.out.frozen 0
    have f1 := R1.out.frozen 1
    simp only [List.getElem?_cons_zero, List.getElem?_cons_succ] at g0 g1
    go_wp2_with fail
    refine bodyPost_ret (v := .tuple #[.agg #[.slice none 0 0, .slice none 0 0], .bool false]) (by simp [results, Try.results22, go_sem, g0, g1]) rfl (hisOpt_none HY.out ?_)
    repeat (with_reducible refine gb_setCell (p := ⟨_, _, none⟩) ?_ (.inl (by show _ ≤ w.heap.size + 1; omega)) _)
    exact G.out
  · rw [hv] at HV
    cases ht : M.inR t 0 1000
    · have HY : Hid (M.RollBack h t = none) := Lib.hid (by unfold M.RollBack; rw [ht]; simp)
      rw [ht] at HIR
      clear hv D hd ht
      generalize h.log.length = m at *
      generalize h.times.length = n at *
      go_enter Try.func22, Try.ntmps22
      go_wp2_with fail
      refine (HV.out _ GB.out).mono ?_
      rintro e w1 ⟨rfl, hg⟩
      have G := Lib.hid (gb_trans GB.out hg)
      have R0 := Lib.hid (RB0.out.grown hg (by simp))
      have R1 := Lib.hid (RB1.out.grown hg (by simp))
      clear hg
      have q0 := R0.out.cell 0
      have q1 := R0.out.cell 1
      simp only [List.getElem?_cons_zero, List.getElem?_cons_succ] at q0 q1
      have g0 := R1.out.cell 0
      have g1 := R1.out.cell 1
      have f0 := R1.out.frozen 0
      have f1 := R1.out.frozen 1
      simp only [List.getElem?_cons_zero, List.getElem?_cons_succ] at g0 g1
      go_wp2_with fail
      refine (HIR.out _).mono ?_
      rintro e w2 ⟨rfl, rfl⟩
      go_wp2_with fail
      refine bodyPost_ret (v := .tuple #[.agg #[.slice none 0 0, .slice none 0 0], .bool false]) (by simp [results, Try.results22, go_sem, g0, g1]) rfl (hisOpt_none HY.out ?_)
      repeat (with_reducible refine gb_setCell (p := ⟨_, _, none⟩) ?_ (.inl (by show _ ≤ w.heap.size + 1; omega)) _)
      exact G.out
    · rw [ht] at HIR
      obtain ⟨z1, z2, z3, z4⟩ := hist_facts hv
      have HY : Hid (M.RollBack h t = some (M.takeH h (M.upTo h.times t))) := Lib.hid (by unfold M.RollBack; rw [if_pos ⟨hv, ht⟩])
      obtain ⟨u, hu⟩ : ∃ u, u = M.upTo h.times t := ⟨_, rfl⟩
      have hum : u ≤ h.times.length := by rw [hu]; exact M.upTo_le _ _
      rw [← hu] at HY
      have HUP : Hid (∀ W, w.grownBy W none → Calls Try.prog 62 #[.agg #[.slice A h.log.length c, .slice B h.times.length d], .int .i64 t] W fun e w' => e = .returned (.int .i64 u) ∧ W.grownBy w' none) := Lib.hid fun W hW => hu ▸ upTo_spec (D.on hW).2
      have HC : Hid (∀ W, w.grownBy W none → Calls Try.prog 53 #[.agg #[.slice A h.log.length c, .slice B h.times.length d], .int .i64 u] W fun e w' => ∃ v, e = .returned v ∧ HisMade W W.heap.size (M.takeH h u) v w') := Lib.hid fun W hW => copyHistory_spec (D.on hW) (by omega) hum hd (by omega)
      clear hv D hd z1 z2 z3 z4 ht hu hum
      generalize h.log.length = m at *
      generalize h.times.length = n at *
      generalize M.takeH h u = h' at *
      go_enter Try.func22, Try.ntmps22
      go_wp2_with fail
      refine (HV.out _ GB.out).mono ?_
      rintro e w1 ⟨rfl, hg⟩
      have G := Lib.hid (gb_trans GB.out hg)
      have R0 := Lib.hid (RB0.out.grown hg (by simp))
      have R1 := Lib.hid (RB1.out.grown hg (by simp))
      clear hg
      have q0 := R0.out.cell 0
      have q1 := R0.out.cell 1
      simp only [List.getElem?_cons_zero, List.getElem?_cons_succ] at q0 q1
      have g0 := R1.out.cell 0
      have g1 := R1.out.cell 1
      have f0 := R1.out.frozen 0
      have f1 := R1.out.frozen 1
      simp only [List.getElem?_cons_zero, List.getElem?_cons_succ] at g0 g1
      go_wp2_with fail
      refine (HIR.out _).mono ?_
      rintro e w2 ⟨rfl, rfl⟩
      have hs1 := G.out.size
      have hlt := R1.out.lt
      go_wp2_with fail
      go_region_law (first | (go_simp; go_at_call 62; refine Calls.mono (HUP.out _ (gb_drew G.out)) ?_; rintro e w3 ⟨rfl, hg3⟩; have G3 := Lib.hid (gb_trans (gb_drew G.out) hg3); have P0 := Lib.hid (Row.grown (Row.drew_ R0.out) hg3 (by simp)); have P1 := Lib.hid (Row.grown (Row.drew_ R1.out) hg3 (by simp)); have b0 := P0.out.cell 0; have b1 := P0.out.cell 1; simp only [List.getElem?_cons_zero, List.getElem?_cons_succ] at b0 b1; have hs3 := hg3.size; clear hg3) | (go_simp; go_at_call 53; refine Calls.mono (HC.out _ G3.out) ?_; rintro e w4 ⟨v, rfl, A1, c1, B1, d1, rfl, hc1, hd1, ho, hg4⟩; have G4 := Lib.hid (gb_trans G3.out hg4); have P4 := Lib.hid (P1.out.grown hg4 (by simp)); have O4 := Lib.hid ho; have H1 := Lib.hid hc1; have H2 := Lib.hid hd1; clear hc1 hd1 ho hg4 g0 g1 f0 f1; have g0 := P4.out.cell 0; have g1 := P4.out.cell 1; have f0 := P4.out.frozen 0; have f1 := P4.out.frozen 1; simp only [List.getElem?_cons_zero, List.getElem?_cons_succ] at g0 g1))
      all_goals
        go_wp2_with fail
        refine bodyPost_ret (v := .tuple #[.agg #[.slice A1 h'.log.length c1, .slice B1 h'.times.length d1], .bool true]) (by simp [results, Try.results22, go_sem, g0, g1]) rfl (hisOpt_some HY.out H1.out H2.out ?_ ?_)
        · have hh : w1.heap.size ≤ w3.heap.size := hs3
          refine OwnH.wide (lo := w3.heap.size) ?_ (by omega)
          repeat (with_reducible refine OwnH.set_ (p := ⟨_, _, none⟩) ?_ (by show w.heap.size + 1 < _; omega) _)
          exact O4.out
        · repeat (with_reducible refine gb_setCell (p := ⟨_, _, none⟩) ?_ (.inl (by show _ ≤ w.heap.size + 1; omega)) _)
          exact G4.out
end Go.Proofs.Ythoakomccjjhbaa
