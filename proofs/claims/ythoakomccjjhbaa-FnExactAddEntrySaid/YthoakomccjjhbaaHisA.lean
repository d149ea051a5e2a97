/- The walks of stores at times, of histories rolled back and added to. -/
import Derived.Test.YthoakomccjjhbaaHisU
namespace Go.Proofs.Ythoakomccjjhbaa
open Go.RowKit
set_option linter.unusedVariables false
set_option linter.unusedSimpArgs false
set_option maxRecDepth 100000

theorem hist_facts {h : M.Hist} (hv : M.validHist h = true) : h.times.length = h.log.length ∧ h.times.Pairwise (· ≤ ·) ∧ h.log.length ≤ 32 ∧ M.validLog h.log = true := by
  obtain ⟨h1, h2, h3, h4⟩ := M.validHist_iff.1 hv
  exact ⟨h2, M.timesOk_pw h3, by unfold M.validLog at h1; simp at h1; exact h1.2, h1⟩
def ItemsMade (w : World) (L : List M.Item) (e : Ending) (w' : World) : Prop := ∃ A c, e = .returned (.slice A L.length c) ∧ L.length ≤ c ∧ OwnItems w' w.heap.size (.slice A L.length c) L ∧ w.grownBy w' none
theorem ItemsMade.on {w w0 w' : World} {L : List M.Item} {e : Ending} (h : ItemsMade w0 L e w') (hg : w.grownBy w0 none) : ItemsMade w L e w' := by
  obtain ⟨A, c, rfl, hc, ho, hg'⟩ := h
  exact ⟨A, c, rfl, hc, ho.wide hg.size, gb_trans hg hg'⟩
theorem itemsMade_nil {w w' : World} {L : List M.Item} (hL : L = []) (h : w.grownBy w' none) : ItemsMade w L (.returned (.slice none 0 0)) w' := by
  subst hL
  exact ⟨none, 0, rfl, Nat.le_refl _, ⟨[], rfl, ⟨rfl, .inl ⟨rfl, rfl⟩⟩, by simp, List.Pairwise.nil⟩, h⟩
theorem OwnH.sees {w : World} {lo n c m d : Nat} {A B : Option Addr} {l : List M.Entry} {ts : List Int} (h : OwnH w lo (.slice A n c) (.slice B m d) l ts) (hs : SmallE l) (ht : ts.length ≤ 1048576) : SeesH w A B ⟨l, ts⟩ := by
  refine ⟨⟨?_, hs⟩, ?_, ht⟩
  · obtain ⟨A', c', e, _, hr⟩ := h.entries.rd
    injection e with e1
    subst e1
    exact hr.wide (Nat.zero_le _) (Nat.le_refl _)
  · obtain ⟨A', c', e, _, hr⟩ := h.times.rd
    injection e with e1
    subst e1
    exact hr.wide (Nat.zero_le _) (Nat.le_refl _)
theorem Row.drew_ {w : World} {g : Nat} {t : TypeId} {cs : List Value} (h : Row w g t cs) : Row w.drew g t cs := h
theorem field_log (A B : Option Addr) (n c m d : Nat) (w : World) : (Instr.field 26 (.agg #[.slice A n c, .slice B m d]) 0).run Try.prog w = .ok (.slice A n c) w := by kernel_rfl
set_option maxHeartbeats 1000000 in
theorem storeAt_impl {w : World} {A B : Option Addr} {c d : Nat} {h : M.Hist} {t : Int} (D : SeesH w A B h) (hv : M.validHist h = true) (hd : h.times.length ≤ d) :
    Calls Try.prog 59 #[.agg #[.slice A h.log.length c, .slice B h.times.length d], .int .i64 t] w (ItemsMade w (M.storeAt h t)) := by
  obtain ⟨f1, f2, f3, f4⟩ := hist_facts hv
  have G0 := Lib.hid (World.grownBy_alloc w (.cells #[.slice A h.log.length c, .slice B h.times.length d] 26) none)
  have HU := Lib.hid (until_impl (c := c) (d := d) (t := t) (D.on G0.out) f1 f2 f3 hd)
  have HS : Hid (SmallE (h.log.take (M.upTo h.times t))) := Lib.hid (D.1.2.take _)
  have HK : Hid (∀ x ∈ h.log.take (M.upTo h.times t), x.kind = 1 ∨ x.kind = 2) := Lib.hid (kind_of (M.valid_sub f4 (List.take_sublist _ _)))
  have HL : Hid ((h.times.take (M.upTo h.times t)).length ≤ 1048576) := Lib.hid (by rw [List.length_take]; omega)
  clear f1 f2 f3 f4 D hv
  generalize h.log.length = m at *
  generalize h.times.length = n at *
  go_enter Try.func59, Try.ntmps59
  go_wp2_with fail
  refine HU.out.mono ?_
  rintro e w1 ⟨v, rfl, A1, c1, B1, d1, rfl, hc1, hd1, ho, hg⟩
  have S := Lib.hid (OwnH.sees ho HS.out HL.out).1
  have HR := Lib.hid (replayLog_impl (A := none) (c := 0) (d := c1) (SeesI.none_ w1 none) S.out HK.out)
  have G1 := Lib.hid (gb_trans G0.out hg)
  have hfl := field_log A1 B1 (M.takeH h (M.upTo h.times t)).log.length c1 (M.takeH h (M.upTo h.times t)).times.length d1 w1
  clear hc1 hd1 ho hg
  go_wp2_with fail
  clear hfl
  refine HR.out.mono ?_
  rintro e w2 ⟨A2, c2, rfl, hc2, ho, hg⟩
  have Z : Hid (ItemsMade w (M.storeAt h t) (.returned (.slice A2 (repInt (M.replay [] (h.log.take (M.upTo h.times t)))).1.length c2)) w2) := Lib.hid ⟨A2, c2, rfl, hc2, ho.wide G1.out.size, gb_trans G1.out hg⟩
  clear hc2 ho hg
  go_wp2_with fail
  go_ret
  exact Z.out
set_option maxHeartbeats 1000000 in
theorem StoreAt_impl {w : World} {A B : Option Addr} {c d : Nat} {h : M.Hist} {t : Int} (D : SeesH w A B h) (hd : h.times.length ≤ d) :
    Calls Try.prog 16 #[.agg #[.slice A h.log.length c, .slice B h.times.length d], .int .i64 t] w (ItemsMade w (M.StoreAt h t)) := by
  have G0 := Lib.hid (World.grownBy_alloc w (.cells #[.slice A h.log.length c, .slice B h.times.length d] 26) none)
  have HV := Lib.hid (isHistory_impl (c := c) (d := d) (D.on G0.out))
  have B0 := Lib.hid (Row.new w 26 (ca := #[.slice A h.log.length c, .slice B h.times.length d]) rfl)
  cases hv : M.validHist h
  · have HY : Hid (M.StoreAt h t = []) := Lib.hid (by unfold M.StoreAt; rw [hv]; simp)
    rw [HY.out]
    rw [hv] at HV
    clear hv D hd
    generalize h.log.length = m at *
    generalize h.times.length = n at *
    go_enter Try.func16, Try.ntmps16
    go_wp2_with fail
    refine HV.out.mono ?_
    rintro e w1 ⟨rfl, hg⟩
    have G := Lib.hid (gb_trans G0.out hg)
    clear hg
    go_wp2_with fail
    go_ret
    exact itemsMade_nil rfl G.out
  · rw [hv] at HV
    by_cases ht : 0 ≤ t ∧ t ≤ 1000
    · obtain ⟨ht0, ht1⟩ := ht
      have HY : Hid (M.StoreAt h t = M.storeAt h t) := Lib.hid (by unfold M.StoreAt; rw [if_pos ⟨hv, M.inR_of ht0 ht1⟩])
      rw [HY.out]
      have HC : Hid (∀ W, w.grownBy W none → Calls Try.prog 59 #[.agg #[.slice A h.log.length c, .slice B h.times.length d], .int .i64 t] W (ItemsMade w (M.storeAt h t))) := Lib.hid fun W hW => (storeAt_impl (D.on hW) hv hd).mono fun _ _ x => x.on hW
      clear hv D hd
      generalize h.log.length = m at *
      generalize h.times.length = n at *
      go_enter Try.func16, Try.ntmps16
      go_wp2_with fail
      refine HV.out.mono ?_
      rintro e w1 ⟨rfl, hg⟩
      have G := Lib.hid (gb_trans G0.out hg)
      have B1 := Lib.hid (B0.out.grown hg (by simp))
      clear hg
      have q0 := B1.out.cell 0
      have q1 := B1.out.cell 1
      simp only [List.getElem?_cons_zero, List.getElem?_cons_succ] at q0 q1
      go_wp2_with fail
      refine (HC.out _ G.out).mono ?_
      rintro e w2 ⟨A2, c2, rfl, hc2, ho, hg⟩
      have Z : Hid (ItemsMade w (M.storeAt h t) _ w2) := Lib.hid ⟨A2, c2, rfl, hc2, ho, hg⟩
      clear hc2 ho hg
      go_wp2_with fail
      go_ret
      exact Z.out
    · have HY : Hid (M.StoreAt h t = []) := Lib.hid (by
        unfold M.StoreAt
        rw [if_neg]
        rintro ⟨_, h2⟩
        exact ht (M.inR_true h2))
      rw [HY.out]
      clear hv D hd
      generalize h.log.length = m at *
      generalize h.times.length = n at *
      by_cases h0 : t < 0
      · have t0 : decide (t < 0) = true := decide_eq_true h0
        clear ht
        go_enter Try.func16, Try.ntmps16
        go_wp2_with fail
        refine HV.out.mono ?_
        rintro e w1 ⟨rfl, hg⟩
        have G := Lib.hid (gb_trans G0.out hg)
        clear hg
        go_wp2_with fail
        go_ret
        exact itemsMade_nil rfl G.out
      · have h1 : 1000 < t := by omega
        have t0 : decide (t < 0) = false := decide_eq_false h0
        have t1 : decide (1000 < t) = true := decide_eq_true h1
        clear ht
        go_enter Try.func16, Try.ntmps16
        go_wp2_with fail
        refine HV.out.mono ?_
        rintro e w1 ⟨rfl, hg⟩
        have G := Lib.hid (gb_trans G0.out hg)
        clear hg
        go_wp2_with fail
        go_ret
        exact itemsMade_nil rfl G.out
set_option maxHeartbeats 4000000 in
theorem StoreAt_spec {w : World} {A B : Option Addr} {c d : Nat} {h : M.Hist} {t : Int} (D : SeesH w A B h) (hc : h.log.length ≤ c) :
    Calls Try.prog 28 #[.agg #[.slice A h.log.length c, .slice B h.times.length d], .int .i64 t] w (ItemsMade w (M.StoreAt h t)) := by
  have G0 := Lib.hid (World.grownBy_alloc w (.cells #[.slice A h.log.length c, .slice B h.times.length d] 26) none)
  have HV := Lib.hid (validHistory_spec (c := c) (d := d) (D.on G0.out))
  have B0 := Lib.hid (Row.new w 26 (ca := #[.slice A h.log.length c, .slice B h.times.length d]) rfl)
  have HIR : Hid (∀ W, Calls Try.prog 61 #[.int .i64 t, .int .i64 0, .int .i64 1000] W fun e w' => e = .returned (.bool (M.inR t 0 1000)) ∧ W = w') := Lib.hid fun W => inRange_any _ _ _ _
  cases hv : M.validHist h
  · have HY : Hid (M.StoreAt h t = []) := Lib.hid (by unfold M.StoreAt; rw [hv]; simp)
    rw [HY.out]
    rw [hv] at HV
    clear hv D hc
    generalize h.log.length = m at *
    generalize h.times.length = n at *
    go_enter Try.func28, Try.ntmps28
    go_wp2_with fail
    refine HV.out.mono ?_
    rintro e w1 ⟨rfl, hg⟩
    have G := Lib.hid (gb_trans G0.out hg)
    clear hg
    go_wp2_with fail
    go_ret
    exact itemsMade_nil rfl G.out
  · rw [hv] at HV
    cases ht : M.inR t 0 1000
    · have HY : Hid (M.StoreAt h t = []) := Lib.hid (by unfold M.StoreAt; rw [ht]; simp)
      rw [HY.out]
      rw [ht] at HIR
      clear hv D hc ht
      generalize h.log.length = m at *
      generalize h.times.length = n at *
      go_enter Try.func28, Try.ntmps28
      go_wp2_with fail
      refine HV.out.mono ?_
      rintro e w1 ⟨rfl, hg⟩
      have G := Lib.hid (gb_trans G0.out hg)
      clear hg
      go_wp2_with fail
      refine (HIR.out _).mono ?_
      rintro e w2 ⟨rfl, rfl⟩
      go_wp2_with fail
      go_ret
      exact itemsMade_nil rfl G.out
    · rw [ht] at HIR
      obtain ⟨f1, f2, f3, f4⟩ := hist_facts hv
      have HY : Hid (M.StoreAt h t = M.storeAt h t) := Lib.hid (by unfold M.StoreAt; rw [if_pos ⟨hv, ht⟩])
      rw [HY.out]
      obtain ⟨u, hu⟩ : ∃ u, u = M.upTo h.times t := ⟨_, rfl⟩
      have hum : u ≤ h.log.length := by rw [hu, ← f1]; exact M.upTo_le _ _
      have HUP : Hid (∀ W, w.grownBy W none → Calls Try.prog 62 #[.agg #[.slice A h.log.length c, .slice B h.times.length d], .int .i64 t] W fun e w' => e = .returned (.int .i64 u) ∧ W.grownBy w' none) := Lib.hid fun W hW => hu ▸ upTo_spec (D.on hW).2
      have HTL : Hid ((h.log.take u).length = u) := Lib.hid (by rw [List.length_take]; omega)
      have HRP : Hid (∀ W A' , w.grownBy W none → Calls Try.prog 70 #[.slice A' 0 0, .slice A u c] W (RepMade w (repInt (M.replay [] (h.log.take u))))) := Lib.hid fun W A' hW => by
        have e := ReplayLog_spec (A := A') (c := 0) (d := c) (SeesI.none_ W A') ((D.on hW).1.take u)
        rw [ReplayLog_good M.valid_nil (M.valid_sub f4 (List.take_sublist _ _)), HTL.out] at e
        exact e.mono fun _ _ x => x.on hW
      have HST : Hid (M.storeAt h t = (repInt (M.replay [] (h.log.take u))).1) := Lib.hid (by rw [hu]; rfl)
      clear hv D ht f1 f2 f4
      obtain ⟨m, hm⟩ : ∃ m, m = h.log.length := ⟨_, rfl⟩
      rw [← hm] at hc hum f3 HV B0 G0 HUP
      rw [← hm]
      have huc : u ≤ c := by omega
      have huc' : (u : Int) ≤ (c : Int) := by omega
      have hu0 : (0 : Int) ≤ (u : Int) := by omega
      clear hm hu
      generalize h.times.length = n at *
      go_enter Try.func28, Try.ntmps28
      go_wp2_with fail
      refine HV.out.mono ?_
      rintro e w1 ⟨rfl, hg⟩
      have G := Lib.hid (gb_trans G0.out hg)
      have B1 := Lib.hid (B0.out.grown hg (by simp))
      clear hg
      have q0 := B1.out.cell 0
      have q1 := B1.out.cell 1
      have q0a := (B1.out.alloc (.cells #[] 28)).cell 0
      have q1a := (B1.out.alloc (.cells #[] 28)).cell 1
      simp only [List.getElem?_cons_zero, List.getElem?_cons_succ] at q0 q1 q0a q1a
      go_wp2_with fail
      refine (HIR.out _).mono ?_
      rintro e w2 ⟨rfl, rfl⟩
      go_wp2_with fail
      go_region_law (first | (go_simp; go_at_call 62; refine Calls.mono (HUP.out _ (by first | exact gb_drew G.out | exact gb_drew (gb_alloc G.out _))) ?_; rintro e w3 ⟨rfl, hg3⟩; have G3 := Lib.hid (show w.grownBy w3 none from gb_trans (by first | exact gb_drew G.out | exact gb_drew (gb_alloc G.out _)) hg3); have B3 := Lib.hid (show Row w3 w.heap.size 26 [.slice A m c, .slice B n d] from by first | exact Row.grown (Row.drew_ B1.out) hg3 (by simp) | exact Row.grown (Row.drew_ (B1.out.alloc (.cells #[] 28))) hg3 (by simp)); have b0 := B3.out.cell 0; have b0a := (B3.out.alloc (.cells #[] 28)).cell 0; simp only [List.getElem?_cons_zero] at b0 b0a; clear hg3) | (go_simp; go_at_call 70; refine Calls.mono (HRP.out _ _ (by first | exact G3.out | exact gb_alloc G3.out _)) ?_; rintro e w4 ⟨A2, c2, rfl, hc2, ho, hg4⟩; have Z := Lib.hid (show ItemsMade w (repInt (M.replay [] (h.log.take u))).1 _ w4 from ⟨A2, c2, rfl, hc2, ho, hg4⟩); clear hc2 ho hg4))
      all_goals
        go_wp2_with fail
        go_ret
        rw [HST.out]
        exact Z.out
end Go.Proofs.Ythoakomccjjhbaa
