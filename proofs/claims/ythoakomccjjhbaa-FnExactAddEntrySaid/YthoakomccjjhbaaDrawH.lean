/- The walks of the draws of histories. -/
import Derived.Test.YthoakomccjjhbaaHisE
import Derived.Test.YthoakomccjjhbaaDrawR
namespace Go.Proofs.Ythoakomccjjhbaa
open Go.RowKit
set_option linter.unusedVariables false
set_option linter.unusedSimpArgs false
set_option maxRecDepth 100000

theorem valid_smallE {l : List M.Entry} (h : M.validLog l = true) : SmallE l := by
  unfold M.validLog at h
  simp only [Bool.and_eq_true, List.all_eq_true, decide_eq_true_eq] at h
  refine ⟨by omega, fun x hx => ?_⟩
  have := h.1 x hx
  unfold M.validEntry at this
  split at this
  · simp only [Bool.and_eq_true, decide_eq_true_eq] at this; omega
  · simp only [Bool.and_eq_true, decide_eq_true_eq] at this
    have := validItem_len this.2
    omega
theorem valid_empty : M.validHist ⟨[], []⟩ = true := M.validHist_iff.2 ⟨by simp [M.validLog], rfl, by simp [M.timesOk, M.tTo], rfl⟩
theorem some_boxes (w : World) : Row ((((w.alloc (.cells #[.slice none 0 0, .slice none 0 0] 26)).alloc (.cells #[] 30)).alloc (.cells #[] 3)).alloc (.cells #[.slice (some ⟨w.heap.size + 1, 0, none⟩) 0 0, .slice (some ⟨w.heap.size + 1 + 1, 0, none⟩) 0 0] 26)) w.heap.size 26 [.slice none 0 0, .slice none 0 0] ∧
    Row ((((w.alloc (.cells #[.slice none 0 0, .slice none 0 0] 26)).alloc (.cells #[] 30)).alloc (.cells #[] 3)).alloc (.cells #[.slice (some ⟨w.heap.size + 1, 0, none⟩) 0 0, .slice (some ⟨w.heap.size + 1 + 1, 0, none⟩) 0 0] 26)) (w.heap.size + 1 + 1 + 1) 26 [.slice (some ⟨w.heap.size + 1, 0, none⟩) 0 0, .slice (some ⟨w.heap.size + 1 + 1, 0, none⟩) 0 0] ∧
    OwnH ((((w.alloc (.cells #[.slice none 0 0, .slice none 0 0] 26)).alloc (.cells #[] 30)).alloc (.cells #[] 3)).alloc (.cells #[.slice (some ⟨w.heap.size + 1, 0, none⟩) 0 0, .slice (some ⟨w.heap.size + 1 + 1, 0, none⟩) 0 0] 26)) w.heap.size (.slice (some ⟨w.heap.size + 1, 0, none⟩) 0 0) (.slice (some ⟨w.heap.size + 1 + 1, 0, none⟩) 0 0) [] [] ∧
    w.grownBy ((((w.alloc (.cells #[.slice none 0 0, .slice none 0 0] 26)).alloc (.cells #[] 30)).alloc (.cells #[] 3)).alloc (.cells #[.slice (some ⟨w.heap.size + 1, 0, none⟩) 0 0, .slice (some ⟨w.heap.size + 1 + 1, 0, none⟩) 0 0] 26)) none := by
  have h1 := World.ownsRow_made (base := w.heap.size) (e := 30) (size := 4) (w.alloc (.cells #[.slice none 0 0, .slice none 0 0] 26)) #[] 0 (by simp) (by decide) rfl
  have h2 := World.ownsRow_made (base := w.heap.size) (e := 3) (size := 1) ((w.alloc (.cells #[.slice none 0 0, .slice none 0 0] 26)).alloc (.cells #[] 30)) #[] 0 (by simp; omega) (by decide) rfl
  simp only [World.size_alloc] at h1 h2
  refine ⟨(((Row.new w _ rfl).alloc _).alloc _).alloc _, ?_, ⟨[], rfl, ?_, by simp, List.Pairwise.nil, ?_, by simp⟩, gb_alloc (gb_alloc (gb_alloc (gb_alloc (gb_refl _ _) _) _) _) _⟩
  · have := Row.new (((w.alloc (.cells #[.slice none 0 0, .slice none 0 0] 26)).alloc (.cells #[] 30)).alloc (.cells #[] 3)) 26 (ca := #[.slice (some ⟨w.heap.size + 1, 0, none⟩) 0 0, .slice (some ⟨w.heap.size + 1 + 1, 0, none⟩) 0 0]) rfl
    simpa using this
  · simpa [cellsE] using (h1.alloc (.cells #[] 3)).alloc (.cells #[.slice (some ⟨w.heap.size + 1, 0, none⟩) 0 0, .slice (some ⟨w.heap.size + 1 + 1, 0, none⟩) 0 0] 26)
  · simpa [OwnInts] using h2.alloc (.cells #[.slice (some ⟨w.heap.size + 1, 0, none⟩) 0 0, .slice (some ⟨w.heap.size + 1 + 1, 0, none⟩) 0 0] 26)
/-- a valid history was drawn -/
def HisDrawn (w : World) (g p : Nat) (e : Ending) (w' : World) : Prop :=
  ∃ (h : M.Hist) (A B : Option Addr) (c d : Nat), e = .returned (.agg #[.slice A h.log.length c, .slice B h.times.length d]) ∧ h.log.length ≤ c ∧ h.times.length ≤ d ∧ M.validHist h = true ∧ OwnH w' w.heap.size (.slice A h.log.length c) (.slice B h.times.length d) h.log h.times ∧ RdrB w' g p ∧ w.grownBy w' (some g)
/-- what the next history is, and whether it is one, beside the one at hand -/
def HisNext (w : World) (g p : Nat) (l : List M.Entry) (ts : List Int) (A B : Option Addr) (c d : Nat) (s6 s7 : Value) (W : World) : Prop :=
  ∃ (g6 : Nat) (r : Option M.Hist) (A4 B4 : Option Addr) (c4 d4 : Nat), s6 = .pointer (some ⟨g6, 0, none⟩) ∧ s7 = .bool r.isSome ∧ Row W g6 26 [.slice A4 (r.getD ⟨[], []⟩).log.length c4, .slice B4 (r.getD ⟨[], []⟩).times.length d4] ∧ (r.getD ⟨[], []⟩).log.length ≤ c4 ∧ (r.getD ⟨[], []⟩).times.length ≤ d4 ∧ (∀ h', r = some h' → M.validHist h' = true) ∧
    OwnH W w.heap.size (.slice A4 (r.getD ⟨[], []⟩).log.length c4) (.slice B4 (r.getD ⟨[], []⟩).times.length d4) (r.getD ⟨[], []⟩).log (r.getD ⟨[], []⟩).times ∧ OwnH W w.heap.size (.slice A l.length c) (.slice B ts.length d) l ts ∧
    Row W w.heap.size 26 [.slice none 0 0, .slice none 0 0] ∧ Row W (w.heap.size + 1 + 1 + 1) 26 [.slice A l.length c, .slice B ts.length d] ∧ RdrB W g p ∧ w.grownBy W (some g)
theorem hn_new {w w4 : World} {g p : Nat} {l : List M.Entry} {ts : List Int} {A B A4 B4 : Option Addr} {c d c4 d4 : Nat} {r : Option M.Hist} (R4 : RdrB w4 g p) (G4 : w.grownBy w4 (some g)) (HLT : g < w.heap.size) (HC : (r.getD ⟨[], []⟩).log.length ≤ c4) (HD : (r.getD ⟨[], []⟩).times.length ≤ d4) (HR : ∀ h', r = some h' → M.validHist h' = true)
    (N4 : OwnH w4 w.heap.size (.slice A4 (r.getD ⟨[], []⟩).log.length c4) (.slice B4 (r.getD ⟨[], []⟩).times.length d4) (r.getD ⟨[], []⟩).log (r.getD ⟨[], []⟩).times) (O4 : OwnH w4 w.heap.size (.slice A l.length c) (.slice B ts.length d) l ts)
    (Q0 : Row w4 w.heap.size 26 [.slice none 0 0, .slice none 0 0]) (Q3 : Row w4 (w.heap.size + 1 + 1 + 1) 26 [.slice A l.length c, .slice B ts.length d]) :
    HisNext w g p l ts A B c d (.pointer (some ⟨w4.heap.size, 0, none⟩)) (.bool r.isSome) (w4.alloc (.cells #[.slice A4 (r.getD ⟨[], []⟩).log.length c4, .slice B4 (r.getD ⟨[], []⟩).times.length d4] 26)) :=
  ⟨_, r, A4, B4, c4, d4, rfl, rfl, Row.new w4 _ rfl, HC, HD, HR, N4.grown (World.grownBy_alloc w4 _ none) (by simp), O4.grown (World.grownBy_alloc w4 _ none) (by simp), Q0.alloc _, Q3.alloc _, R4.grown (World.grownBy_alloc w4 _ none), gb_alloc G4 _⟩
theorem hn_old {w w4 : World} {g p g6 : Nat} {l : List M.Entry} {ts : List Int} {A B A4 B4 : Option Addr} {c d c4 d4 : Nat} {r : Option M.Hist} (h3 : w.heap.size + 1 + 1 + 1 < g6) (h0 : w.heap.size < g6) (R4 : RdrB w4 g p) (G4 : w.grownBy w4 (some g)) (HLT : g < w.heap.size) (HC : (r.getD ⟨[], []⟩).log.length ≤ c4) (HD : (r.getD ⟨[], []⟩).times.length ≤ d4) (HR : ∀ h', r = some h' → M.validHist h' = true)
    (N4 : OwnH w4 w.heap.size (.slice A4 (r.getD ⟨[], []⟩).log.length c4) (.slice B4 (r.getD ⟨[], []⟩).times.length d4) (r.getD ⟨[], []⟩).log (r.getD ⟨[], []⟩).times) (O4 : OwnH w4 w.heap.size (.slice A l.length c) (.slice B ts.length d) l ts)
    (Q0 : Row w4 w.heap.size 26 [.slice none 0 0, .slice none 0 0]) (Q3 : Row w4 (w.heap.size + 1 + 1 + 1) 26 [.slice A l.length c, .slice B ts.length d]) (Q6 : Row w4 g6 26 [.slice none 0 0, .slice none 0 0]) :
    HisNext w g p l ts A B c d (.pointer (some ⟨g6, 0, none⟩)) (.bool r.isSome) ((w4.setCell ⟨g6, 0, none⟩ (.slice A4 (r.getD ⟨[], []⟩).log.length c4)).setCell ⟨g6, 1, none⟩ (.slice B4 (r.getD ⟨[], []⟩).times.length d4)) := by
  have q1 := Q6.set_ 0 (.slice A4 (r.getD ⟨[], []⟩).log.length c4)
  refine ⟨_, r, A4, B4, c4, d4, rfl, rfl, q1.set_ 1 _, HC, HD, HR, (N4.set_row (i := 0) Q6 _).set_row q1 _, (O4.set_row (i := 0) Q6 _).set_row q1 _, (Q0.far (by show w.heap.size ≠ g6; omega) _).far (by show w.heap.size ≠ g6; omega) _, (Q3.far (by show w.heap.size + 1 + 1 + 1 ≠ g6; omega) _).far (by show w.heap.size + 1 + 1 + 1 ≠ g6; omega) _, (R4.set_ (by show g < g6; omega) _).set_ (by show g < g6; omega) _, gb_setCell (gb_setCell G4 (.inl (by show w.heap.size ≤ g6; omega)) _) (.inl (by show w.heap.size ≤ g6; omega)) _⟩
theorem add_valid {h h' : M.Hist} {y : M.Entry} {t : Int} (e : M.AddEntry h y t = some h') : M.validHist h' = true := by
  unfold M.AddEntry at e
  split at e
  · rename_i hc
    injection e with e
    rw [← e]; exact hc.2
  · cases e
set_option maxHeartbeats 4000000 in
theorem someHistory_any (w : World) (g p : Nat) (hr : RdrB w g p) (hp : p ≤ 600000) :
    Calls Try.prog 79 #[.pointer (some ⟨g, 0, none⟩)] w (HisDrawn w g (p + 1000)) := by
  obtain ⟨rb0, rb1, rh, gb0⟩ := some_boxes w
  have RB0 := Lib.hid rb0
  have RB1 := Lib.hid rb1
  have OB := Lib.hid rh
  have GB := Lib.hid gb0
  have HLT := Lib.hid hr.lt
  have RR := Lib.hid (hr.grown gb0)
  clear rb0 rb1 rh gb0 hr
  go_enter Try.func79, Try.ntmps79
  go_wp2_with fail
  refine (pick_b _ _ p 20 RR.out (by omega) (by omega) (by omega)).mono ?_
  rintro e w1 ⟨t, ht0, ht1, rfl, hr, hg⟩
  have R0 := Lib.hid (RB0.out.grown hg (by simp; have := HLT.out; omega))
  have R1 := Lib.hid (RB1.out.grown hg (by simp; have := HLT.out; omega))
  have O := Lib.hid (OB.out.grown hg (fun b e => by injection e with e; have := HLT.out; omega))
  have R := Lib.hid hr
  have G := Lib.hid (gb_trans (gb_some GB.out (some g)) hg)
  clear hr hg RB0 RB1 OB GB RR
  go_wp2_with fail
  refine (one_b _ _ (p + 1) _ [5, 8, 12, 3, 0, 20] (R.out.grown (World.grownBy_alloc _ _ _)) (by omega) (by simp) (by simp) (RdInts.lit_at .i64 rfl (by have := R.out.lt; omega) (by simp) _ _ rfl rfl)).mono ?_
  rintro e w2 ⟨n, hn, rfl, hr, hg⟩
  have hn0 : 0 ≤ n ∧ n ≤ 20 := by simp at hn; omega
  replace R := Lib.hid hr
  replace R0 := Lib.hid ((R0.out.alloc _).grown hg (by simp; have := HLT.out; omega))
  replace R1 := Lib.hid ((R1.out.alloc _).grown hg (by simp; have := HLT.out; omega))
  replace O := Lib.hid ((O.out.grown (World.grownBy_alloc _ _ none) (by simp)).grown hg (fun b e => by injection e with e; have := HLT.out; omega))
  replace G := Lib.hid (gb_trans (gb_alloc G.out _) hg)
  clear hr hg hn
  obtain ⟨m, rfl⟩ := Int.eq_ofNat_of_zero_le hn0.1
  have hm : m ≤ 20 := by omega
  clear hn0
  go_wp2_with fail
  go_loopw [4, 5] (fun tv i wr => ∃ (k : Nat) (t : Int) (h : M.Hist) (A B : Option Addr) (c d : Nat), k ≤ 20 ∧ i = .int .i64 k ∧ tv = .int .i64 t ∧ 0 ≤ t ∧ t + 10 * k ≤ 300 ∧ h.log.length ≤ c ∧ h.times.length ≤ d ∧ M.validHist h = true ∧ OwnH wr w.heap.size (.slice A h.log.length c) (.slice B h.times.length d) h.log h.times ∧ Row wr w.heap.size 26 [.slice none 0 0, .slice none 0 0] ∧ Row wr (w.heap.size + 1 + 1 + 1) 26 [.slice A h.log.length c, .slice B h.times.length d] ∧ RdrB wr g (p + 1 + 1 + 20 * (20 - k)) ∧ w.grownBy wr (some g)) (fun _ i _ => (intOf i).toNat)
  case atStart => exact ⟨m, _, ⟨[], []⟩, some ⟨w.heap.size + 1, 0, none⟩, some ⟨w.heap.size + 1 + 1, 0, none⟩, 0, 0, hm, rfl, rfl, by omega, by omega, Nat.le_refl _, Nat.le_refl _, valid_empty, O.out, R0.out, R1.out, R.out.mono (by omega), G.out⟩
  case round =>
    clear O R0 R1 R G hm ht0 ht1
    obtain ⟨k, t, h, A, B, c, d, hk, rfl, rfl, ht0, ht1, hc, hd, hv, hown, hr0, hr1, hr, hg⟩ := hrel
    have O := Lib.hid hown
    have R0 := Lib.hid hr0
    have R1 := Lib.hid hr1
    have R := Lib.hid hr
    have G := Lib.hid hg
    have HV := Lib.hid hv
    have HC := Lib.hid hc
    have HDD := Lib.hid hd
    have HS : Hid (SmallE h.log) := Lib.hid (valid_smallE (M.validHist_iff.1 hv).1)
    have HTL : Hid (h.times.length ≤ 1048576) := Lib.hid (by have := (hist_facts hv).1; have := (hist_facts hv).2.2.1; omega)
    have e0 := hr1.cell 0
    have e1 := hr1.cell 1
    simp only [List.getElem?_cons_zero, List.getElem?_cons_succ] at e0 e1
    clear hown hr0 hr1 hr hg hv hc hd
    obtain ⟨l, ts⟩ := h
    have HX : Hid (∀ W, OwnH W w.heap.size (.slice A l.length c) (.slice B ts.length d) l ts → ∀ (y : M.Entry) (u : Value), RdInts .i64 W 0 W.heap.size u y.item.pos → y.item.pos.length ≤ 1048576 → Calls Try.prog 13 #[.agg #[.slice A l.length c, .slice B ts.length d], .agg #[.int .i64 y.kind, .int .i64 y.item.key, u, .int .i64 y.item.tags], .int .i64 t] W (HisOpt W (M.AddEntry ⟨l, ts⟩ y t))) := Lib.hid fun W ho y u hu hl => AddEntry_spec (h := ⟨l, ts⟩) (ho.sees HS.out HTL.out) HDD.out hu hl
    by_cases hlt : 0 < k
    · have HB3 := Lib.hid R1.out.lt
      have e0a := (R1.out.alloc (.cells #[.slice none 0 0, .slice none 0 0] 26)).cell 0
      have e1a := (R1.out.alloc (.cells #[.slice none 0 0, .slice none 0 0] 26)).cell 1
      simp only [List.getElem?_cons_zero, List.getElem?_cons_succ] at e0a e1a
      go_wp2_with fail
      go_cut [6, 7] (fun s6 s7 wx => HisNext w g (p + 1 + 1 + 20 * (20 - k) + 16) l ts A B c d s6 s7 wx)
      case first =>
        go_region_law (first | (go_simp; go_at_call 82; refine Calls.mono (someEntry_any _ g _ (R.out.grown (gb_drew (gb_refl _ none))) (by omega)) ?_; rintro e w3 ⟨y, Ay, cy, rfl, hdx, hlx, hr3, hg3⟩; have E3 := Lib.hid ((hdx.1.wide (Nat.zero_le _) (Nat.le_refl _) : RdInts .i64 w3 0 w3.heap.size (.slice Ay y.item.pos.length cy) y.item.pos)); have O3 := Lib.hid ((O.out.grown (gb_drew (gb_refl _ none)) (by simp)).grown hg3 (fun b e => by injection e with e; have := HLT.out; omega)); have P3 := Lib.hid (Row.grown (Row.drew_ ( R1.out)) hg3 (by simp; have := HLT.out; omega)); have P0 := Lib.hid (Row.grown (Row.drew_ ( R0.out)) hg3 (by simp; have := HLT.out; omega));  have R3 := Lib.hid hr3; have hs3 := hg3.size; have G3 := Lib.hid (gb_trans (gb_drew G.out) hg3); have b0 := P3.out.cell 0; have b1 := P3.out.cell 1; have b0a := (P3.out.alloc (.cells #[.slice none 0 0, .slice none 0 0] 26)).cell 0; have b1a := (P3.out.alloc (.cells #[.slice none 0 0, .slice none 0 0] 26)).cell 1; simp only [List.getElem?_cons_zero, List.getElem?_cons_succ] at b0 b1 b0a b1a; clear hdx hr3 hg3) | (go_simp; go_at_call 82; refine Calls.mono (someEntry_any _ g _ (R.out.grown (gb_drew (World.grownBy_alloc _ (.cells #[.slice none 0 0, .slice none 0 0] 26) none))) (by omega)) ?_; rintro e w3 ⟨y, Ay, cy, rfl, hdx, hlx, hr3, hg3⟩; have E3 := Lib.hid ((hdx.1.wide (Nat.zero_le _) (Nat.le_refl _) : RdInts .i64 w3 0 w3.heap.size (.slice Ay y.item.pos.length cy) y.item.pos)); have O3 := Lib.hid ((O.out.grown (gb_drew (World.grownBy_alloc _ (.cells #[.slice none 0 0, .slice none 0 0] 26) none)) (by simp)).grown hg3 (fun b e => by injection e with e; have := HLT.out; omega)); have P3 := Lib.hid (Row.grown (Row.drew_ ((fun (h : Row wr _ _ _) => h.alloc (.cells #[.slice none 0 0, .slice none 0 0] 26)) R1.out)) hg3 (by simp; have := HLT.out; omega)); have P0 := Lib.hid (Row.grown (Row.drew_ ((fun (h : Row wr _ _ _) => h.alloc (.cells #[.slice none 0 0, .slice none 0 0] 26)) R0.out)) hg3 (by simp; have := HLT.out; omega)); have P6 := Lib.hid (Row.grown (Row.drew_ (Row.new wr 26 (ca := #[.slice none 0 0, .slice none 0 0]) rfl)) hg3 (by simp; have := HLT.out; have := HB3.out; omega)); have h6 := HB3.out; have R3 := Lib.hid hr3; have hs3 := hg3.size; have G3 := Lib.hid (gb_trans (gb_drew (gb_alloc G.out (.cells #[.slice none 0 0, .slice none 0 0] 26))) hg3); have b0 := P3.out.cell 0; have b1 := P3.out.cell 1; have b0a := (P3.out.alloc (.cells #[.slice none 0 0, .slice none 0 0] 26)).cell 0; have b1a := (P3.out.alloc (.cells #[.slice none 0 0, .slice none 0 0] 26)).cell 1; simp only [List.getElem?_cons_zero, List.getElem?_cons_succ] at b0 b1 b0a b1a; clear hdx hr3 hg3) | (go_simp; go_at_call 13; obtain ⟨r, hr9⟩ : ∃ r, r = M.AddEntry ⟨l, ts⟩ y t := ⟨_, rfl⟩;  have HX9 := HX.out _ O3.out y _ E3.out (by omega); rw [← hr9] at HX9; refine Calls.mono HX9 ?_; rintro e w4 ⟨A4, c4, B4, d4, rfl, hc4, hd4, ho4, hg4⟩; have HR9 : Hid (∀ h', r = some h' → M.validHist h' = true) := Lib.hid (fun h' e => add_valid (hr9.symm.trans e)); have O4 := Lib.hid (OwnH.grown O3.out hg4 (by simp)); have hs4 := hg4.size; have N4 := Lib.hid (ho4.wide (show w.heap.size ≤ _ from G3.out.size)); have Q3 := Lib.hid (Row.grown ((fun (h : Row w3 _ _ _) => h) P3.out) hg4 (by simp)); have Q0 := Lib.hid (Row.grown ((fun (h : Row w3 _ _ _) => h) P0.out) hg4 (by simp)); have Q6 := Lib.hid (Row.grown P6.out hg4 (by simp)); have d0 := Q6.out.cell 0; have d1 := Q6.out.cell 1; have df0 := Q6.out.frozen 0; have df1 := Q6.out.frozen 1; simp only [List.getElem?_cons_zero, List.getElem?_cons_succ] at d0 d1; have R4 := Lib.hid (RdrB.grown R3.out hg4); have G4 := Lib.hid (gb_trans G3.out (gb_some hg4 (some g))); have HC4 := Lib.hid hc4; have HD4 := Lib.hid hd4; clear hr9 HX9 hc4 hd4 ho4 hg4) | (go_simp; go_at_call 13; obtain ⟨r, hr9⟩ : ∃ r, r = M.AddEntry ⟨l, ts⟩ y t := ⟨_, rfl⟩; have EA := (E3.out.keep (World.grownBy_alloc w3 (.cells #[.slice none 0 0, .slice none 0 0] 26) none) (Nat.le_refl _)).wide (Nat.le_refl _) (World.grownBy_alloc w3 (.cells #[.slice none 0 0, .slice none 0 0] 26) none).size; have HX9 := HX.out _ (O3.out.grown (World.grownBy_alloc w3 (.cells #[.slice none 0 0, .slice none 0 0] 26) none) (by simp)) y _ EA (by omega); rw [← hr9] at HX9; refine Calls.mono HX9 ?_; rintro e w4 ⟨A4, c4, B4, d4, rfl, hc4, hd4, ho4, hg4⟩; have HR9 : Hid (∀ h', r = some h' → M.validHist h' = true) := Lib.hid (fun h' e => add_valid (hr9.symm.trans e)); have O4 := Lib.hid (OwnH.grown (O3.out.grown (World.grownBy_alloc w3 (.cells #[.slice none 0 0, .slice none 0 0] 26) none) (by simp)) hg4 (by simp)); have hs4 := hg4.size; have N4 := Lib.hid (ho4.wide (show w.heap.size ≤ _ from (gb_alloc G3.out (.cells #[.slice none 0 0, .slice none 0 0] 26)).size)); have Q3 := Lib.hid (Row.grown ((fun (h : Row w3 _ _ _) => h.alloc (.cells #[.slice none 0 0, .slice none 0 0] 26)) P3.out) hg4 (by simp)); have Q0 := Lib.hid (Row.grown ((fun (h : Row w3 _ _ _) => h.alloc (.cells #[.slice none 0 0, .slice none 0 0] 26)) P0.out) hg4 (by simp)); have Q6 := Lib.hid (Row.grown (Row.new w3 26 (ca := #[.slice none 0 0, .slice none 0 0]) rfl) hg4 (by simp)); have h6 := P3.out.lt; have d0 := Q6.out.cell 0; have d1 := Q6.out.cell 1; have df0 := Q6.out.frozen 0; have df1 := Q6.out.frozen 1; simp only [List.getElem?_cons_zero, List.getElem?_cons_succ] at d0 d1; have R4 := Lib.hid (RdrB.grown (R3.out.grown (World.grownBy_alloc w3 (.cells #[.slice none 0 0, .slice none 0 0] 26) none)) hg4); have G4 := Lib.hid (gb_trans (gb_alloc G3.out (.cells #[.slice none 0 0, .slice none 0 0] 26)) (gb_some hg4 (some g))); have HC4 := Lib.hid hc4; have HD4 := Lib.hid hd4; clear hr9 HX9 hc4 hd4 ho4 hg4) | (go_simp; go_at_call 13; obtain ⟨r, hr9⟩ : ∃ r, r = M.AddEntry ⟨l, ts⟩ y t := ⟨_, rfl⟩;  have HX9 := HX.out _ O3.out y _ E3.out (by omega); rw [← hr9] at HX9; refine Calls.mono HX9 ?_; rintro e w4 ⟨A4, c4, B4, d4, rfl, hc4, hd4, ho4, hg4⟩; have HR9 : Hid (∀ h', r = some h' → M.validHist h' = true) := Lib.hid (fun h' e => add_valid (hr9.symm.trans e)); have O4 := Lib.hid (OwnH.grown O3.out hg4 (by simp)); have hs4 := hg4.size; have N4 := Lib.hid (ho4.wide (show w.heap.size ≤ _ from G3.out.size)); have Q3 := Lib.hid (Row.grown ((fun (h : Row w3 _ _ _) => h) P3.out) hg4 (by simp)); have Q0 := Lib.hid (Row.grown ((fun (h : Row w3 _ _ _) => h) P0.out) hg4 (by simp)); have Q7 := True.intro;  have R4 := Lib.hid (RdrB.grown R3.out hg4); have G4 := Lib.hid (gb_trans G3.out (gb_some hg4 (some g))); have HC4 := Lib.hid hc4; have HD4 := Lib.hid hd4; clear hr9 HX9 hc4 hd4 ho4 hg4))
        all_goals
          go_wp2_with fail
          go_meet
          first
            | exact hn_new R4.out G4.out HLT.out HC4.out HD4.out HR9.out N4.out O4.out Q0.out Q3.out
            | exact hn_old (by omega) (by omega) R4.out G4.out HLT.out HC4.out HD4.out HR9.out N4.out O4.out Q0.out Q3.out Q6.out
      case rest =>
        clear O R0 R1 R G e0 e1 e0a e1a HX HS HTL
        obtain ⟨g6, r, A4, B4, c4, d4, rfl, rfl, hr6, hc4, hd4, hv4, hn4, ho4, hq0, hq3, hrd, hg⟩ := hcut
        have Q6 := Lib.hid hr6
        have HC4 := Lib.hid hc4
        have HD4 := Lib.hid hd4
        have HV4 := Lib.hid hv4
        have N4 := Lib.hid hn4
        have O4 := Lib.hid ho4
        have Q0 := Lib.hid hq0
        have Q3 := Lib.hid hq3
        have R4 := Lib.hid hrd
        have G4 := Lib.hid hg
        clear hr6 hc4 hd4 hv4 hn4 ho4 hq0 hq3 hrd hg
        cases r with
        | none =>
          go_wp2_with fail
          refine (one_b _ _ (p + 1 + 1 + 20 * (20 - k) + 16) _ [0, 1, 5, 10] (R4.out.grown (World.grownBy_alloc _ _ _)) (by omega) (by simp) (by simp) (RdInts.lit_at .i64 rfl (by have := R4.out.lt; omega) (by simp) _ _ rfl rfl)).mono ?_
          rintro e w5 ⟨v, hv, rfl, hr, hg⟩
          have hv0 : 0 ≤ v ∧ v ≤ 10 := by simp at hv; omega
          have R5 := Lib.hid hr
          have P0 := Lib.hid ((Q0.out.alloc _).grown hg (by simp; have := HLT.out; omega))
          have P3 := Lib.hid ((Q3.out.alloc _).grown hg (by simp; have := HLT.out; omega))
          have O5 := Lib.hid ((O4.out.grown (World.grownBy_alloc _ _ none) (by simp)).grown hg (fun b e => by injection e with e; have := HLT.out; omega))
          have G5 := Lib.hid (gb_trans (gb_alloc G4.out _) hg)
          clear hr hg hv
          go_wp2_with fail
          go_roundw
          case rel => exact ⟨k - 1, t + v, ⟨l, ts⟩, A, B, c, d, by omega, by go_num, rfl, by omega, by omega, HC.out, HDD.out, HV.out, O5.out, P0.out, P3.out, R5.out.mono (by omega), G5.out⟩
          case measure => simp [intOf]; omega
        | some h' =>
          have HVV := Lib.hid (HV4.out h' rfl)
          have HC5 : Hid (h'.log.length ≤ c4) := HC4
          have HD5 : Hid (h'.times.length ≤ d4) := HD4
          have N5 : Hid (OwnH wc w.heap.size (.slice A4 h'.log.length c4) (.slice B4 h'.times.length d4) h'.log h'.times) := N4
          have Q7 : Hid (Row wc g6 26 [.slice A4 h'.log.length c4, .slice B4 h'.times.length d4]) := Q6
          clear HV4 HC4 HD4 N4 Q6
          have d0 := Q7.out.cell 0
          have d1 := Q7.out.cell 1
          have x0 := Q3.out.cell 0
          have x1 := Q3.out.cell 1
          have y0 := Q3.out.frozen 0
          have y1 := Q3.out.frozen 1
          simp only [List.getElem?_cons_zero, List.getElem?_cons_succ] at d0 d1 x0 x1
          have S3 := Lib.hid (Q3.out.set_ 0 (.slice A4 h'.log.length c4))
          have T3 := Lib.hid (S3.out.set_ 1 (.slice B4 h'.times.length d4))
          have N6 := Lib.hid ((N5.out.set_row (i := 0) Q3.out (.slice A4 h'.log.length c4)).set_row (i := 1) S3.out (.slice B4 h'.times.length d4))
          have T0 := Lib.hid ((Q0.out.far (p := ⟨w.heap.size + 1 + 1 + 1, 0, none⟩) (by show w.heap.size ≠ w.heap.size + 1 + 1 + 1; omega) (.slice A4 h'.log.length c4)).far (p := ⟨w.heap.size + 1 + 1 + 1, 1, none⟩) (by show w.heap.size ≠ w.heap.size + 1 + 1 + 1; omega) (.slice B4 h'.times.length d4))
          have R6 := Lib.hid ((R4.out.set_ (a := ⟨w.heap.size + 1 + 1 + 1, 0, none⟩) (by show g < w.heap.size + 1 + 1 + 1; have := HLT.out; omega) (.slice A4 h'.log.length c4)).set_ (a := ⟨w.heap.size + 1 + 1 + 1, 1, none⟩) (by show g < w.heap.size + 1 + 1 + 1; have := HLT.out; omega) (.slice B4 h'.times.length d4))
          have G6 := Lib.hid (gb_setCell (p := ⟨w.heap.size + 1 + 1 + 1, 1, none⟩) (gb_setCell (p := ⟨w.heap.size + 1 + 1 + 1, 0, none⟩) G4.out (.inl (by show w.heap.size ≤ w.heap.size + 1 + 1 + 1; omega)) (.slice A4 h'.log.length c4)) (.inl (by show w.heap.size ≤ w.heap.size + 1 + 1 + 1; omega)) (.slice B4 h'.times.length d4))
          go_wp2_with fail
          refine (one_b _ _ (p + 1 + 1 + 20 * (20 - k) + 16) _ [0, 1, 5, 10] (R6.out.grown (World.grownBy_alloc _ _ _)) (by omega) (by simp) (by simp) (RdInts.lit_at .i64 (by simp) (by have := R4.out.lt; omega) (by simp) _ _ rfl rfl)).mono ?_
          rintro e w5 ⟨v, hv, rfl, hr, hg⟩
          have hv0 : 0 ≤ v ∧ v ≤ 10 := by simp at hv; omega
          have R5 := Lib.hid hr
          have P0 := Lib.hid ((T0.out.alloc _).grown hg (by simp; have := HLT.out; omega))
          have P3 := Lib.hid ((T3.out.alloc _).grown hg (by simp; have := HLT.out; omega))
          have O5 := Lib.hid ((N6.out.grown (World.grownBy_alloc _ _ none) (by simp)).grown hg (fun b e => by injection e with e; have := HLT.out; omega))
          have G5 := Lib.hid (gb_trans (gb_alloc G6.out _) hg)
          clear hr hg hv
          go_wp2_with fail
          go_roundw
          case rel => exact ⟨k - 1, t + v, h', A4, B4, c4, d4, by omega, by go_num, rfl, by omega, by omega, HC5.out, HD5.out, HVV.out, O5.out, P0.out, P3.out, R5.out.mono (by omega), G5.out⟩
          case measure => simp [intOf]; omega
    · obtain rfl : k = 0 := by omega
      have g0 := R0.out.cell 0
      have g1 := R0.out.cell 1
      have f0 := R0.out.frozen 0
      have f1 := R0.out.frozen 1
      simp only [List.getElem?_cons_zero, List.getElem?_cons_succ] at g0 g1
      go_wp2_with fail
      refine bodyPost_ret (v := .agg #[.slice A l.length c, .slice B ts.length d]) (by simp [results, Try.results79, go_sem, g0, g1]) rfl ⟨⟨l, ts⟩, A, B, c, d, rfl, HC.out, HDD.out, HV.out, ?_, ?_, ?_⟩
      · exact (O.out.set_row (i := 0) R0.out _).set_row (R0.out.set_ 0 _) _
      · repeat (with_reducible refine RdrB.set_ (a := ⟨_, _, none⟩) ?_ (by show g < w.heap.size; exact HLT.out) _)
        exact R.out.mono (by omega)
      · repeat (with_reducible refine gb_setCell (p := ⟨_, _, none⟩) ?_ (.inl (by show _ ≤ w.heap.size; omega)) _)
        exact G.out
/-- a history behind the reader's block -/
def SeesGH (g : Nat) (w : World) (A B : Option Addr) (h : M.Hist) : Prop := RdE w (g + 1) w.heap.size A h.log ∧ Rd w (g + 1) w.heap.size B (h.times.map (.int .i64)) ∧ SmallE h.log ∧ h.times.length ≤ 1048576
theorem SeesGH.onG {g : Nat} {w w' : World} {A B : Option Addr} {h : M.Hist} (D : SeesGH g w A B h) (hg : w.grownBy w' (some g)) : SeesGH g w' A B h :=
  ⟨(D.1.agree (Agree.of_grown_some hg)).wide (Nat.le_refl _) hg.size, (D.2.1.agree (Agree.of_grown_some hg)).wide (Nat.le_refl _) hg.size, D.2.2⟩
theorem SeesGH.sees {g : Nat} {w : World} {A B : Option Addr} {h : M.Hist} (D : SeesGH g w A B h) : SeesH w A B h := ⟨⟨D.1.wide (Nat.zero_le _) (Nat.le_refl _), D.2.2.1⟩, D.2.1.wide (Nat.zero_le _) (Nat.le_refl _), D.2.2.2⟩
/-- a history was drawn that may be spoiled -/
def HisAny (w : World) (g p : Nat) (e : Ending) (w' : World) : Prop :=
  ∃ (h : M.Hist) (A B : Option Addr) (c d : Nat), e = .returned (.agg #[.slice A h.log.length c, .slice B h.times.length d]) ∧ h.log.length ≤ c ∧ h.times.length ≤ d ∧ h.log.length ≤ 40 ∧ h.times.length ≤ 40 ∧ SeesGH g w' A B h ∧ RdrB w' g p ∧ w.grownBy w' (some g)
theorem OwnH.seesG {w : World} {lo g n c m d : Nat} {A B : Option Addr} {l : List M.Entry} {ts : List Int} (h : OwnH w lo (.slice A n c) (.slice B m d) l ts) (hlo : g < lo) (hs : SmallE l) (ht : ts.length ≤ 1048576) : SeesGH g w A B ⟨l, ts⟩ := by
  refine ⟨?_, ?_, hs, ht⟩
  · obtain ⟨A', c', e, _, hr⟩ := h.entries.rd
    injection e with e1
    subst e1
    exact hr.wide (by omega) (Nat.le_refl _)
  · obtain ⟨A', c', e, _, hr⟩ := h.times.rd
    injection e with e1
    subst e1
    exact hr.wide (by omega) (Nat.le_refl _)
theorem TV.set_row {w : World} {lo hi g i : Nat} {u a b : Value} {l : List Int} (h : TV w lo hi u l) (hr : Row w g 26 [a, b]) (x : Value) : TV (w.setCell ⟨g, i, none⟩ x) lo hi u l :=
  h.kept (hr.owns (base := 0) (n := 2) (cap := 2) (size := 1) (Nat.zero_le _) (Nat.le_refl _) (by unfold maxLen; omega) (by simp)) (by decide) (gb_setCell (gb_refl w (some g)) (.inr rfl) x)
/-- a history of the call's own whose last entry's vector is only readable -/
def OwnY (w : World) (lo mid : Nat) (v1 v2 : Value) (l : List M.Entry) (y : M.Entry) (ts : List Int) : Prop :=
  ∃ (LV : List (M.Entry × Value)) (u : Value), LV.map (·.1) = l ∧ w.ownsRow lo 30 4 v1 (l.length + 1) (cellsE LV ++ [.int .i64 y.kind, .int .i64 y.item.key, u, .int .i64 y.item.tags]) ∧ (∀ p ∈ LV, OwnInts .i64 3 w lo p.2 p.1.item.pos) ∧
    OwnInts .i64 3 w lo v2 ts ∧ (∀ p ∈ LV, p.2.ownBlock = none ∨ p.2.ownBlock ≠ v2.ownBlock) ∧ TV w mid w.heap.size u y.item.pos ∧ ∀ b, v2.ownBlock = some b → b < mid
theorem OwnY.times {w : World} {lo mid : Nat} {v1 v2 : Value} {l : List M.Entry} {y : M.Entry} {ts : List Int} (h : OwnY w lo mid v1 v2 l y ts) : OwnInts .i64 3 w lo v2 ts := by
  obtain ⟨LV, u, a, b, c, d, e, f, g⟩ := h; exact d
theorem OwnY.grown {w w' : World} {lo mid : Nat} {v1 v2 : Value} {l : List M.Entry} {y : M.Entry} {ts : List Int} {r : Option Nat} (h : OwnY w lo mid v1 v2 l y ts) (hg : w.grownBy w' r) (hr : ∀ g, r = some g → g < lo) (hm : lo ≤ mid) : OwnY w' lo mid v1 v2 l y ts := by
  obtain ⟨LV, u, a, b, c, d, e, f, g⟩ := h
  exact ⟨LV, u, a, b.kept hg (own_ge b hr), fun p hp => (c p hp).grown hg hr, d.grown hg hr, e, (f.agree ((Agree.refl _ _ _).by_ hg (fun g e => .inl (by have := hr g e; omega)) (Nat.le_refl _))).wide (Nat.le_refl _) hg.size, g⟩
theorem OwnY.set_row {w : World} {lo mid g i : Nat} {v1 v2 x z : Value} {l : List M.Entry} {y : M.Entry} {ts : List Int} (h : OwnY w lo mid v1 v2 l y ts) (hr : Row w g 26 [x, z]) (u : Value) : OwnY (w.setCell ⟨g, i, none⟩ u) lo mid v1 v2 l y ts := by
  have hg : w.grownBy (w.setCell ⟨g, i, none⟩ u) (some g) := gb_setCell (gb_refl w (some g)) (.inr rfl) u
  have hk : ∀ {t : TypeId} {size n : Nat} {v : Value} {xs : List Value}, w.ownsRow lo t size v n xs → t ≠ 26 → v.ownBlock = none ∨ v.ownBlock ≠ some g := fun hv ht => .inr (owns_ne hv hr ht).symm
  obtain ⟨LV, u', a, b, c, d, e, f, h⟩ := h
  exact ⟨LV, u', a, b.kept hg (hk b (by decide)), fun p hp => (c p hp).kept hg (hk (c p hp) (by decide)), d.kept hg (hk d (by decide)), e, (f.set_row hr u).wide (Nat.le_refl _) (by simp), h⟩
theorem ownY_push {w w4 : World} {lo mid n : Nat} {v1 v2 v' u : Value} {l : List M.Entry} {y : M.Entry} {ts : List Int} {LV : List (M.Entry × Value)} (h1 : LV.map (·.1) = l) (h2 : w.ownsRow lo 30 4 v1 n (cellsE LV)) (h3 : ∀ p ∈ LV, OwnInts .i64 3 w lo p.2 p.1.item.pos)
    (h4 : OwnInts .i64 3 w lo v2 ts) (h5 : ∀ p ∈ LV, p.2.ownBlock = none ∨ p.2.ownBlock ≠ v2.ownBlock) (hy : TV w mid w.heap.size u y.item.pos) (hb : ∀ b, v2.ownBlock = some b → b < mid)
    (T1 : w4.ownsRow lo 30 4 v' (l.length + 1) (cellsE LV ++ [.int .i64 y.kind, .int .i64 y.item.key, u, .int .i64 y.item.tags])) (T2 : w.grownBy w4 v1.ownBlock) : OwnY w4 lo mid v' v2 l y ts :=
  ⟨LV, u, h1, T1, fun p hp => (h3 p hp).kept T2 (ent_types (h3 p hp) h2), h4.kept T2 (ent_types h4 h2), h5, (hy.kept h2 (by decide) T2).wide (Nat.le_refl _) T2.size, hb⟩
/-- a history whose rows are the call's own, the vectors only readable -/
def OwnZ (w : World) (lo : Nat) (v1 v2 : Value) (l : List M.Entry) (ts : List Int) : Prop := SemiE w lo v1 l ∧ OwnInts .i64 3 w lo v2 ts
theorem OwnZ.set_row {w : World} {lo g i : Nat} {v1 v2 x z : Value} {l : List M.Entry} {ts : List Int} (h : OwnZ w lo v1 v2 l ts) (hr : Row w g 26 [x, z]) (u : Value) : OwnZ (w.setCell ⟨g, i, none⟩ u) lo v1 v2 l ts := by
  have hg : w.grownBy (w.setCell ⟨g, i, none⟩ u) (some g) := gb_setCell (gb_refl w (some g)) (.inr rfl) u
  obtain ⟨⟨LV, h1, h2, h3⟩, h4⟩ := h
  exact ⟨⟨LV, h1, h2.kept hg (.inr (owns_ne h2 hr (by decide)).symm), fun p hp => ((h3 p hp).set_row hr u).wide (Nat.le_refl _) (by simp)⟩, h4.kept hg (.inr (owns_ne h4 hr (by decide)).symm)⟩
theorem OwnY.pushT {w w6 : World} {lo mid n : Nat} {v1 v2 v' : Value} {l : List M.Entry} {y : M.Entry} {ts : List Int} {x : Int} (h : OwnY w lo mid v1 v2 l y ts) (hm : lo ≤ mid) (T1 : w6.ownsRow lo 3 1 v' (n + 1) (ts.map (.int .i64) ++ [.int .i64 x])) (hn : n = ts.length) (T2 : w.grownBy w6 v2.ownBlock) :
    OwnZ w6 lo v1 v' (l ++ [y]) (ts ++ [x]) := by
  obtain ⟨LV, u, rfl, b, c, d, e, f, g⟩ := h
  subst hn
  refine ⟨⟨LV ++ [(y, u)], by simp, ?_, fun p hp => ?_⟩, ?_⟩
  · rw [cellsE_append, cellsE_one, List.length_append]
    refine (?_ : w6.ownsRow lo 30 4 v1 (LV.length + 1) _)
    rw [List.length_map] at b
    refine b.kept T2 ?_
    rcases ent_types d b with h | h
    · by_cases h9 : v1.ownBlock = none
      · exact .inl h9
      · exact .inr (by rw [h]; exact h9)
    · exact .inr (fun h2 => h h2.symm)
  · rw [List.mem_append] at hp
    rcases hp with hp | hp
    · exact OwnInts.tv ((c p hp).kept T2 (e p hp))
    · simp at hp
      subst hp
      exact ((f.agree ((Agree.refl _ _ _).by_ T2 (fun k e => .inl (g k e)) (Nat.le_refl _))).wide hm T2.size)
  · unfold OwnInts
    rw [List.map_append, List.length_append]
    exact T1
theorem OwnZ.seesG {w : World} {lo g n c m d : Nat} {A B : Option Addr} {l : List M.Entry} {ts : List Int} (h : OwnZ w lo (.slice A n c) (.slice B m d) l ts) (hlo : g < lo) (hs : SmallE l) (ht : ts.length ≤ 1048576) : SeesGH g w A B ⟨l, ts⟩ := by
  refine ⟨?_, ?_, hs, ht⟩
  · obtain ⟨A', c', e, _, hr⟩ := h.1.rd
    injection e with e1
    subst e1
    exact hr.wide (by omega) (Nat.le_refl _)
  · obtain ⟨A', c', e, _, hr⟩ := h.2.rd
    injection e with e1
    subst e1
    exact hr.wide (by omega) (Nat.le_refl _)
/-- the log has one more entry, the times not yet -/
def HisY (w : World) (g p g1 mid : Nat) (l : List M.Entry) (ts : List Int) (B : Option Addr) (d : Nat) (W : World) : Prop :=
  ∃ (y : M.Entry) (gg cap : Nat), Row W g1 26 [.slice (some ⟨gg, 0, none⟩) (l.length + 1) cap, .slice B ts.length d] ∧ OwnY W (w.heap.size + 1) mid (.slice (some ⟨gg, 0, none⟩) (l.length + 1) cap) (.slice B ts.length d) l y ts ∧ y.item.pos.length ≤ 5 ∧
    Row W w.heap.size 26 [.slice none 0 0, .slice none 0 0] ∧ RdrB W g p ∧ w.grownBy W (some g) ∧ mid ≤ W.heap.size
theorem hisY_of {w w4 : World} {g p g1 mid gg cap d : Nat} {x : Value} {B : Option Addr} {l : List M.Entry} {y : M.Entry} {ts : List Int} (Y : OwnY w4 (w.heap.size + 1) mid (.slice (some ⟨gg, 0, none⟩) (l.length + 1) cap) (.slice B ts.length d) l y ts) (hy : y.item.pos.length ≤ 5) (RO : Row w4 g1 26 [x, .slice B ts.length d])
    (P0 : Row w4 w.heap.size 26 [.slice none 0 0, .slice none 0 0]) (h1 : w.heap.size < g1) (h2 : g < w.heap.size) (R : RdrB w4 g p) (G : w.grownBy w4 (some g)) (hm : mid ≤ w4.heap.size) : HisY w g p g1 mid l ts B d (w4.setCell ⟨g1, 0, none⟩ (.slice (some ⟨gg, 0, none⟩) (l.length + 1) cap)) :=
  ⟨y, gg, cap, RO.set_ 0 _, Y.set_row RO _, hy, P0.far (by show w.heap.size ≠ g1; omega) _, R.set_ (by show g < g1; omega) _, gb_setCell G (.inl (by show w.heap.size ≤ g1; omega)) _, by simpa using hm⟩
set_option maxHeartbeats 4000000 in
theorem anyHistory_any (w : World) (g p : Nat) (hr : RdrB w g p) (hp : p ≤ 500000) :
    Calls Try.prog 45 #[.pointer (some ⟨g, 0, none⟩)] w (HisAny w g (p + 2000)) := by
  obtain ⟨j0, hj0, hy0, hy1, hy2⟩ := info_parts info_int'
  obtain ⟨i0, hi0, hz0, hz1, hz2⟩ := info_parts info_entry'
  have HLT := Lib.hid hr.lt
  have RR := Lib.hid (hr.grown (World.grownBy_alloc w (.cells #[.slice none 0 0, .slice none 0 0] 26) none))
  have RB0 := Lib.hid (Row.new w 26 (ca := #[.slice none 0 0, .slice none 0 0]) rfl)
  have GB := Lib.hid (World.grownBy_alloc w (.cells #[.slice none 0 0, .slice none 0 0] 26) (some g))
  clear hr
  go_enter Try.func45, Try.ntmps45
  go_wp2_with fail
  refine (someHistory_any _ g p RR.out (by omega)).mono ?_
  rintro e w1 ⟨h, A, B, c, d, rfl, hc, hd, hv, ho, hr, hg⟩
  obtain ⟨z1, z2, z3, z4⟩ := hist_facts hv
  have HS := Lib.hid (valid_smallE z4)
  obtain ⟨l, ts⟩ := h
  change ts.length = l.length at z1
  change l.length ≤ 32 at z3
  have z5 : ts.length ≤ 32 := by omega
  clear z1
  have HC := Lib.hid hc
  have HD := Lib.hid hd
  have hw1 := hg.size
  have O1 := Lib.hid (OwnH.wide ho (show w.heap.size + 1 ≤ _ by simp))
  have R0 := Lib.hid (RB0.out.grown hg (by simp; have := HLT.out; omega))
  have R1 := Lib.hid hr
  have G1 := Lib.hid (gb_trans GB.out hg)
  clear hc hd hv ho hr hg RB0 GB RR z2 z4
  have R2 := Lib.hid (R1.out.grown (World.grownBy_alloc w1 (.cells #[.slice A l.length c, .slice B ts.length d] 26) none))
  have RB3 := Lib.hid (Row.new w1 26 (ca := #[.slice A l.length c, .slice B ts.length d]) rfl)
  go_wp2_with fail
  refine (pick_b _ _ (p + 1000) 16 R2.out (by omega) (by omega) (by omega)).mono ?_
  rintro e w2 ⟨x, hx0, hx1, rfl, hr, hg⟩
  have P0 := Lib.hid ((R0.out.alloc _).grown hg (by simp; have := HLT.out; omega))
  have P3 := Lib.hid (RB3.out.grown hg (by simp; have := HLT.out; have := R1.out.lt; omega))
  have O2 := Lib.hid ((O1.out.grown (World.grownBy_alloc _ _ none) (by simp)).grown hg (fun b e => by injection e with e; have := HLT.out; omega))
  have Q2 := Lib.hid hr
  have G2 := Lib.hid (gb_trans (gb_alloc G1.out _) hg)
  have hw2 := hg.size
  have HLT0 := Lib.hid R0.out.lt
  clear hr hg R0 R1 R2 RB3 O1 G1
  have e0 := P3.out.cell 0
  have e1 := P3.out.cell 1
  have f0 := P3.out.frozen 0
  have f1 := P3.out.frozen 1
  simp only [List.getElem?_cons_zero, List.getElem?_cons_succ] at e0 e1
  by_cases hx : x = 0
  · subst hx
    have HTL : Hid (w2.ownsRow (w.heap.size + 1) 3 1 (.slice B ts.length d) ts.length (ts.map (.int .i64))) := Lib.hid O2.out.times
    have hh1 : w.heap.size < w1.heap.size := HLT0.out
    have hh2 : w1.heap.size + 1 ≤ w2.heap.size := by
      have := hw2
      simp at this
      omega
    go_wp2_with (at_builtin; refine wpList_append_lies _ rfl (.tmp 12) (.tmp 13) 24 rfl (w.heap.size + 1) 3 j0 _ 1 8 Try.underlying24 hj0 hy0 hy1 hy2 rfl (by decide) (.slice B ts.length d) ts.length (ts.map (.int .i64)) rfl (HTL.out.alloc (.cells #[.int .i64 1000] 3)) ⟨w2.heap.size, 0, none⟩ 1 1 [.int .i64 1000] rfl rfl one_cell_new (one_cells rfl) (by omega) (by unfold maxLen; omega) (by omega) (by simp; omega) _ rfl ?_; intro gg2 cap2 w6 hown' hgrow hat hlt6; have T3 := Lib.hid hown'; have T4 := Lib.hid hgrow; have T5 := Lib.hid hat; have hl6 := Lib.hid hlt6; clear hown' hgrow hat)
    have S3 := Lib.hid ((P3.out.alloc (.cells #[.int .i64 1000] 3)).grown T4.out (owns_ne (HTL.out.alloc (.cells #[.int .i64 1000] 3)) (P3.out.alloc (.cells #[.int .i64 1000] 3)) (by decide)))
    have S0 := Lib.hid ((P0.out.alloc (.cells #[.int .i64 1000] 3)).grown T4.out (owns_ne (HTL.out.alloc (.cells #[.int .i64 1000] 3)) (P0.out.alloc (.cells #[.int .i64 1000] 3)) (by decide)))
    have O6 := Lib.hid (OwnH.pushT O2.out (World.grownBy_alloc w2 (.cells #[.int .i64 1000] 3) none) T3.out rfl T4.out T5.out)
    have R6 := Lib.hid ((Q2.out.grown (World.grownBy_alloc w2 (.cells #[.int .i64 1000] 3) none)).row T4.out (fun k hk => by have := (HTL.out.lt k hk).1; have := HLT.out; omega))
    have G6 := Lib.hid (gb_new (gb_alloc G2.out (.cells #[.int .i64 1000] 3)) T4.out (fun k hk => .inl (by have := (HTL.out.lt k hk).1; omega)))
    have D6 : Hid (RdInts .i64 w6 (g + 1) w6.heap.size (.slice (some ⟨gg2, 0, none⟩) (ts.length + 1) cap2) (ts ++ [1000])) := Lib.hid (O6.out.times.rd.wide (by have := HLT.out; omega) (Nat.le_refl _))
    refine (spoil_any _ _ (p + 1000 + 1) _ (ts ++ [1000]) 1001 R6.out (by omega) (by simp; omega) D6.out).mono ?_
    rintro e w5 ⟨v5, l5, rfl, ht5, hl5, hr5, hg5⟩
    obtain ⟨B5, d5, rfl, hd5, hx5⟩ := ht5.1
    have HT5 := Lib.hid ht5
    have HD5 := Lib.hid hd5
    have HL5 : Hid (l5.length ≤ 40) := Lib.hid (by simp at hl5; omega)
    have R5 := Lib.hid hr5
    have G5 := Lib.hid (gb_trans G6.out hg5)
    have X3 := Lib.hid (S3.out.grown hg5 (by simp; have := HLT.out; omega))
    have X0 := Lib.hid (S0.out.grown hg5 (by simp; have := HLT.out; omega))
    have O5 := Lib.hid (O6.out.grown hg5 (fun b e => by injection e with e; have := HLT.out; omega))
    have HS0 := Lib.hid S0.out.lt
    have HS3 := Lib.hid S3.out.lt
    clear hx5 ht5 hd5 hl5 hr5 hg5 e0 e1 f0 f1 P0 P3 O2 Q2 G2 S3 S0 O6 R6 G6 D6 HTL T3 T4 T5
    have e0 := X3.out.cell 0
    have e1 := X3.out.cell 1
    have f1 := X3.out.frozen 1
    simp only [List.getElem?_cons_zero, List.getElem?_cons_succ] at e0 e1
    have g0 := X0.out.cell 0
    have g1 := X0.out.cell 1
    have f0 := X0.out.frozen 0
    have f1 := X0.out.frozen 1
    simp only [List.getElem?_cons_zero, List.getElem?_cons_succ] at g0 g1
    go_wp2_with fail
    refine bodyPost_ret (v := .agg #[.slice A l.length c, .slice B5 l5.length d5]) (by simp [results, Try.results45, go_sem, g0, g1]) rfl ⟨⟨l, l5⟩, A, B5, c, d5, rfl, HC.out, HD5.out, by show l.length ≤ 40; omega, HL5.out, ⟨?_, ?_, HS.out, by have := HL5.out; show l5.length ≤ 1048576; omega⟩, ?_, ?_⟩
    · have hh := ((O5.out.set_row (i := 1) X3.out (.slice B5 l5.length d5)).set_row (i := 0) (X0.out.far (p := ⟨w1.heap.size, 1, none⟩) (by show w.heap.size ≠ w1.heap.size; omega) (.slice B5 l5.length d5)) (.slice A l.length c)).set_row (i := 1) ((X0.out.far (p := ⟨w1.heap.size, 1, none⟩) (by show w.heap.size ≠ w1.heap.size; omega) (.slice B5 l5.length d5)).set_ 0 (.slice A l.length c)) (.slice B5 l5.length d5)
      exact (OwnH.seesG (g := g) hh (by have := HLT.out; omega) HS.out (by simp; omega)).1
    · have ha := (((Agree.refl w6.heap.size w5.heap.size w5).set_ (p := ⟨w1.heap.size, 1, none⟩) (.inl (by show w1.heap.size < w6.heap.size; exact HS3.out)) (.slice B5 l5.length d5)).set_ (p := ⟨w.heap.size, 0, none⟩) (.inl (by show w.heap.size < w6.heap.size; exact HS0.out)) (.slice A l.length c)).set_ (p := ⟨w.heap.size, 1, none⟩) (.inl (by show w.heap.size < w6.heap.size; exact HS0.out)) (.slice B5 l5.length d5)
      obtain ⟨A', c', e, _, hr⟩ := (HT5.out.agree ha).1
      injection e with e1
      subst e1
      exact hr.wide (by have := HLT.out; have := HS0.out; omega) (by simp)
    · repeat (with_reducible refine RdrB.set_ (a := ⟨_, _, none⟩) ?_ (by first | (show g < w.heap.size; exact HLT.out) | (show g < w1.heap.size; have := HLT.out; omega)) _)
      exact R5.out.mono (by omega)
    · repeat (with_reducible refine gb_setCell (p := ⟨_, _, none⟩) ?_ (.inl (by first | (show w.heap.size ≤ w.heap.size; omega) | (show w.heap.size ≤ w1.heap.size; omega))) _)
      exact G5.out
  · have t0 : (x == 0) = false := beq_eq_false_iff_ne.2 hx
    by_cases hx' : x = 1
    · subst hx'
      have hh1 : w.heap.size < w1.heap.size := HLT0.out
      have hh2 : w1.heap.size + 1 ≤ w2.heap.size := by
        have := hw2
        simp at this
        omega
      obtain ⟨LV, hLV, hO, hI, hP, hT, hDj⟩ := O2.out
      have hlen : LV.length = l.length := by rw [← hLV, List.length_map]
      rw [hlen] at hO
      have H1 := Lib.hid hLV
      have H2 := Lib.hid hO
      have H3 := Lib.hid hI
      have H4 := Lib.hid hT
      have H5 := Lib.hid hDj
      have HB := Lib.hid (fun b hb => (OwnH.times O2.out).lt b hb)
      clear hLV hO hI hP hT hDj hlen
      go_wp2_with fail
      go_cut [] (fun wx => HisY w g (p + 1000 + 1 + 50) w1.heap.size w2.heap.size l ts B d wx)
      case first =>
        go_region_law (first | (go_simp; go_at_call 47; refine Calls.mono (anyEntry_any w2.drew g _ (Q2.out.grown (gb_drew (gb_refl _ none))) (by omega)) ?_; rintro e w3 ⟨y, Ay, cy, rfl, hdx, hlx, hr3, hg3⟩; have S3 : Hid (w2.grownBy w3 (some g)) := Lib.hid (gb_trans (gb_drew (gb_refl w2 (some g))) hg3); have DX : Hid (TV w3 w2.heap.size w3.heap.size (.slice Ay y.item.pos.length cy) y.item.pos) := Lib.hid hdx; have HLX := Lib.hid hlx; have R3 := Lib.hid hr3; have hs3 := S3.out.size; have K1 := Lib.hid (H2.out.kept S3.out (own_ge H2.out (fun b e => by injection e with e; have := HLT.out; omega))); have P3b := Lib.hid (P3.out.grown S3.out (by simp; have := HLT.out; omega)); have P0b := Lib.hid (P0.out.grown S3.out (by simp; have := HLT.out; omega)); have b0 := P3b.out.cell 0; have b0a := (P3b.out.alloc (.cells #[.int .i64 y.kind, .int .i64 y.item.key, .slice Ay y.item.pos.length cy, .int .i64 y.item.tags] 30)).cell 0; simp only [List.getElem?_cons_zero, List.getElem?_cons_succ] at b0 b0a; clear hdx hlx hr3 hg3) | (refine step_append_lies _ (by rfl) (.tmp 20) (.tmp 23) 23 (by rfl) (w.heap.size + 1) 30 i0 _ 4 48 Try.underlying23 hi0 hz0 hz1 hz2 rfl (by omega) (.slice A l.length c) l.length (cellsE LV) (by rfl) (K1.out.alloc (.cells #[.int .i64 y.kind, .int .i64 y.item.key, .slice Ay y.item.pos.length cy, .int .i64 y.item.tags] 30)) ⟨w3.heap.size, 0, none⟩ 1 1 [.int .i64 y.kind, .int .i64 y.item.key, .slice Ay y.item.pos.length cy, .int .i64 y.item.tags] (by rfl) (by rfl) (four_cell_at rfl) entry_oneCell (by omega) (by unfold maxLen; omega) (by omega) (by simp; omega) _ rfl ?_; intro gg cap w4 hown' hgrow hat hlt4; have T1 := Lib.hid hown'; have T2 := Lib.hid hgrow; have P3c := Lib.hid ((P3b.out.alloc (.cells #[.int .i64 y.kind, .int .i64 y.item.key, .slice Ay y.item.pos.length cy, .int .i64 y.item.tags] 30)).grown hgrow (owns_ne (K1.out.alloc (.cells #[.int .i64 y.kind, .int .i64 y.item.key, .slice Ay y.item.pos.length cy, .int .i64 y.item.tags] 30)) (P3b.out.alloc (.cells #[.int .i64 y.kind, .int .i64 y.item.key, .slice Ay y.item.pos.length cy, .int .i64 y.item.tags] 30)) (by decide))); have P0c := Lib.hid ((P0b.out.alloc (.cells #[.int .i64 y.kind, .int .i64 y.item.key, .slice Ay y.item.pos.length cy, .int .i64 y.item.tags] 30)).grown hgrow (owns_ne (K1.out.alloc (.cells #[.int .i64 y.kind, .int .i64 y.item.key, .slice Ay y.item.pos.length cy, .int .i64 y.item.tags] 30)) (P0b.out.alloc (.cells #[.int .i64 y.kind, .int .i64 y.item.key, .slice Ay y.item.pos.length cy, .int .i64 y.item.tags] 30)) (by decide))); have d0 := P3c.out.cell 0; have df := P3c.out.frozen 0; simp only [List.getElem?_cons_zero, List.getElem?_cons_succ] at d0; clear hown' hgrow hat))
        all_goals
          go_wp2_with fail
          go_meet
          have hgo : ∀ r, some g = some r → r < w.heap.size + 1 := fun b e => by injection e with e; have := HLT.out; omega
          have GA := World.grownBy_alloc w3 (.cells #[.int .i64 y.kind, .int .i64 y.item.key, .slice Ay y.item.pos.length cy, .int .i64 y.item.tags] 30) none
          refine hisY_of (ownY_push H1.out (K1.out.alloc (.cells #[.int .i64 y.kind, .int .i64 y.item.key, .slice Ay y.item.pos.length cy, .int .i64 y.item.tags] 30)) (fun q hq => ((H3.out q hq).grown S3.out hgo).grown GA (by simp)) ((H4.out.grown S3.out hgo).grown GA (by simp)) H5.out ((DX.out.agree ((Agree.refl _ _ _).alloc (.cells #[.int .i64 y.kind, .int .i64 y.item.key, .slice Ay y.item.pos.length cy, .int .i64 y.item.tags] 30) (Nat.le_refl _))).wide (Nat.le_refl _) GA.size) (fun b hb => (HB.out b hb).2) T1.out T2.out) HLX.out P3c.out P0c.out hh1 HLT.out ((R3.out.grown GA).row T2.out (fun k hk => by have := (K1.out.lt k hk).1; have := HLT.out; omega)) (gb_new (gb_alloc (gb_trans G2.out S3.out) _) T2.out (fun k hk => .inl (by have := (K1.out.lt k hk).1; omega))) ?_
          have := T2.out.size
          have := GA.size
          omega
      case rest =>
        clear H1 H2 H3 H4 H5 HB P0 P3 O2 Q2 G2 e0 e1 f0 f1
        obtain ⟨y, gg, cap, hro, hy, hyl, hp0, hrd, hg, hmid⟩ := hcut
        have P3 := Lib.hid hro
        have YY := Lib.hid hy
        have HYL := Lib.hid hyl
        have P0 := Lib.hid hp0
        have R4 := Lib.hid hrd
        have G4 := Lib.hid hg
        have HT := Lib.hid (show wc.ownsRow (w.heap.size + 1) 3 1 (.slice B ts.length d) ts.length (ts.map (.int .i64)) from hy.times)
        have e0 := P3.out.cell 1
        have e0a := (P3.out.alloc (.cells #[.int .i64 0, .int .i64 900] 3)).cell 1
        simp only [List.getElem?_cons_zero, List.getElem?_cons_succ] at e0 e0a
        clear hro hy hyl hp0 hrd hg
        go_wp2_with fail
        go_region_law (first | (go_simp; go_at_call 46; refine Calls.mono (one_b _ g (p + 1000 + 1 + 50) _ [0, 900] ((R4.out.grown (gb_drew (gb_refl _ none))).grown (World.grownBy_alloc _ (.cells #[.int .i64 0, .int .i64 900] 3) none)) (by omega) (by simp) (by simp) (RdInts.lit_at .i64 rfl (by have := R4.out.lt; simp; omega) (by simp) _ _ rfl rfl)) ?_; rintro e w5 ⟨v, hv, rfl, hr5, hg5⟩; have S5 : Hid (wc.grownBy w5 (some g)) := Lib.hid (gb_trans (gb_alloc (gb_drew (gb_refl wc (some g))) (.cells #[.int .i64 0, .int .i64 900] 3)) hg5); have R5 := Lib.hid hr5; have hs5 := S5.out.size; have HT5 := Lib.hid (HT.out.kept S5.out (own_ge HT.out (fun b e => by injection e with e; have := HLT.out; omega))); have P3b := Lib.hid (P3.out.grown S5.out (by simp; have := HLT.out; omega)); have P0b := Lib.hid (P0.out.grown S5.out (by simp; have := HLT.out; omega)); have b1 := P3b.out.cell 1; have b1a := (P3b.out.alloc (.cells #[.int .i64 v] 3)).cell 1; simp only [List.getElem?_cons_zero, List.getElem?_cons_succ] at b1 b1a; clear hr5 hg5 hv) | (refine step_append_lies _ (by rfl) (.tmp 27) (.tmp 31) 24 (by rfl) (w.heap.size + 1) 3 j0 _ 1 8 Try.underlying24 hj0 hy0 hy1 hy2 rfl (by omega) (.slice B ts.length d) ts.length (ts.map (.int .i64)) (by rfl) (HT5.out.alloc (.cells #[.int .i64 v] 3)) ⟨w5.heap.size, 0, none⟩ 1 1 [.int .i64 v] (by rfl) (by rfl) one_cell_new (one_cells rfl) (by omega) (by unfold maxLen; omega) (by omega) (by simp; omega) _ rfl ?_; intro gg2 cap2 w6 hown' hgrow hat hlt6; have T3 := Lib.hid hown'; have T4 := Lib.hid hgrow; have P3c := Lib.hid ((P3b.out.alloc (.cells #[.int .i64 v] 3)).grown hgrow (owns_ne (HT5.out.alloc (.cells #[.int .i64 v] 3)) (P3b.out.alloc (.cells #[.int .i64 v] 3)) (by decide))); have P0c := Lib.hid ((P0b.out.alloc (.cells #[.int .i64 v] 3)).grown hgrow (owns_ne (HT5.out.alloc (.cells #[.int .i64 v] 3)) (P0b.out.alloc (.cells #[.int .i64 v] 3)) (by decide))); have d0 := P3c.out.cell 0; have d1 := P3c.out.cell 1; have df1 := P3c.out.frozen 1; have g0 := P0c.out.cell 0; have g1 := P0c.out.cell 1; have f0 := P0c.out.frozen 0; have f1 := P0c.out.frozen 1; simp only [List.getElem?_cons_zero, List.getElem?_cons_succ] at d0 d1 g0 g1; clear hown' hgrow hat))
        all_goals
          go_wp2_with fail
          have hgo : ∀ r, some g = some r → r < w.heap.size + 1 := fun b e => by injection e with e; have := HLT.out; omega
          have GA := World.grownBy_alloc w5 (.cells #[.int .i64 v] 3) none
          have ZZ := Lib.hid (OwnY.pushT ((YY.out.grown S5.out hgo (by omega)).grown GA (by simp) (by omega)) (by omega) T3.out rfl T4.out)
          have hcp : l.length + 1 ≤ cap := by
            obtain ⟨A', c', e, h, _⟩ := ZZ.out.1.rd
            injection e with e1 e2 e3
            subst e3
            simpa using h
          have hcp2 : ts.length + 1 ≤ cap2 := by
            obtain ⟨A', c', e, h, _⟩ := ZZ.out.2.rd
            injection e with e1 e2 e3
            subst e3
            simpa using h
          refine bodyPost_ret (v := .agg #[.slice (some ⟨gg, 0, none⟩) (l.length + 1) cap, .slice (some ⟨gg2, 0, none⟩) (ts.length + 1) cap2]) (by simp [results, Try.results45, go_sem, g0, g1]) rfl ⟨⟨l ++ [y], ts ++ [v]⟩, some ⟨gg, 0, none⟩, some ⟨gg2, 0, none⟩, cap, cap2, by simp, by simpa using hcp, by simpa using hcp2, by simp; omega, by simp; omega, ?_, ?_, ?_⟩
          · refine OwnZ.seesG (lo := w.heap.size + 1) (n := l.length + 1) (c := cap) (m := ts.length + 1) (d := cap2) ?_ (by have := HLT.out; omega) ?_ (by simp; omega)
            · have P0d := P0c.out.far (p := ⟨w1.heap.size, 1, none⟩) (by show w.heap.size ≠ w1.heap.size; omega) (.slice (some ⟨gg2, 0, none⟩) (ts.length + 1) cap2)
              exact ((ZZ.out.set_row (i := 1) P3c.out _).set_row (i := 0) P0d _).set_row (P0d.set_ 0 _) _
            · refine ⟨by simp; omega, fun q hq => ?_⟩
              rw [List.mem_append] at hq
              rcases hq with hq | hq
              · exact HS.out.2 q hq
              · simp at hq; subst hq; have := HYL.out; omega
          · repeat (with_reducible refine RdrB.set_ (a := ⟨_, _, none⟩) ?_ (by first | (show g < w.heap.size; exact HLT.out) | (show g < w1.heap.size; have := HLT.out; omega)) _)
            exact ((R5.out.grown GA).row T4.out (fun k hk => by have := (HT5.out.lt k hk).1; have := HLT.out; omega)).mono (by omega)
          · repeat (with_reducible refine gb_setCell (p := ⟨_, _, none⟩) ?_ (.inl (by first | (show w.heap.size ≤ w.heap.size; omega) | (show w.heap.size ≤ w1.heap.size; omega))) _)
            exact gb_new (gb_alloc (gb_trans G4.out S5.out) _) T4.out (fun k hk => .inl (by have := (HT5.out.lt k hk).1; omega))
    · have t1 : (x == 1) = false := beq_eq_false_iff_ne.2 hx'
      have g0 := P0.out.cell 0
      have g1 := P0.out.cell 1
      have f0 := P0.out.frozen 0
      have f1 := P0.out.frozen 1
      simp only [List.getElem?_cons_zero, List.getElem?_cons_succ] at g0 g1
      go_wp2_with fail
      refine bodyPost_ret (v := .agg #[.slice A l.length c, .slice B ts.length d]) (by simp [results, Try.results45, go_sem, g0, g1]) rfl ⟨⟨l, ts⟩, A, B, c, d, rfl, HC.out, HD.out, by show l.length ≤ 40; omega, by show ts.length ≤ 40; omega, ?_, ?_, ?_⟩
      · refine OwnH.seesG (lo := w.heap.size + 1) (n := l.length) (c := c) (m := ts.length) (d := d) ?_ (by have := HLT.out; omega) HS.out (by omega)
        exact (O2.out.set_row (i := 0) P0.out _).set_row (P0.out.set_ 0 _) _
      · repeat (with_reducible refine RdrB.set_ (a := ⟨_, _, none⟩) ?_ (by show g < w.heap.size; exact HLT.out) _)
        exact Q2.out.mono (by omega)
      · repeat (with_reducible refine gb_setCell (p := ⟨_, _, none⟩) ?_ (.inl (by show _ ≤ w.heap.size; omega)) _)
        exact G2.out
end Go.Proofs.Ythoakomccjjhbaa
