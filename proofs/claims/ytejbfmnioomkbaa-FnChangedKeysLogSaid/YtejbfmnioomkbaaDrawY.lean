/- The histories and times that the laws of changed keys are given. -/
import Derived.Test.YtejbfmnioomkbaaDrawX
namespace Go.Proofs.Ytejbfmnioomkbaa
open Go.RowKit
set_option linter.unusedVariables false
set_option linter.unusedSimpArgs false
set_option maxRecDepth 100000

set_option maxHeartbeats 2000000 in
theorem DrawChangedKeys_any (w : World) (A : Option Addr) (c : Nat) (bs : List Int) (h2 : bs.length ≤ c) (hb : bs.length ≤ 1048576) (h3 : ∀ x ∈ bs, 0 ≤ x ∧ x ≤ 255) (h4 : Rd w 0 w.heap.size A (bs.map (.int .u8))) :
    Calls Try.prog 5 #[.slice A bs.length c] w (DrewHTT w) := by
  have H2 := Lib.hid h2
  have HB := Lib.hid hb
  have H3 := Lib.hid h3
  have H4 := Lib.hid h4
  have GA := Lib.hid (World.grownBy_alloc w (.cells #[.slice none 0 0, .slice none 0 0] 26) none)
  have RB := Lib.hid (Row.new w 26 (ca := #[.slice none 0 0, .slice none 0 0]) rfl)
  clear h2 hb h3 h4
  go_enter Try.func5, Try.ntmps5
  go_wp2_with fail
  refine (newReader_any _ A c bs H2.out HB.out H3.out ((H4.out.agree (Agree.of_grown GA.out)).wide (Nat.le_refl _) GA.out.size)).mono ?_
  rintro e w1 ⟨rfl, hr, hg⟩
  obtain ⟨g, hgd⟩ : ∃ g, g = (w.alloc (.cells #[.slice none 0 0, .slice none 0 0] 26)).heap.size := ⟨_, rfl⟩
  rw [← hgd] at hr ⊢
  have HLT : Hid (w.heap.size < g) := Lib.hid (by rw [hgd]; simp)
  have R0 := Lib.hid (RdrB.of hr)
  have G0 := Lib.hid (gb_trans GA.out hg)
  have P0 := Lib.hid (RB.out.grown hg (by simp))
  clear hr hg hgd GA RB
  go_wp2_with fail
  refine (anyHistory_any _ g 0 R0.out (by omega)).mono ?_
  rintro e w2 ⟨h, A1, B1, c1, d1, rfl, hc1, hd1, hl1, hl2, hs, hr, hg⟩
  obtain ⟨l, ts⟩ := h
  change l.length ≤ 40 at hl1
  change ts.length ≤ 40 at hl2
  have HF : Hid (HisForm ⟨l, ts⟩ c1 d1) := Lib.hid ⟨hc1, hd1, hl1, hl2⟩
  have D2 := Lib.hid hs
  have R2 := Lib.hid hr
  have G2 := Lib.hid (gb_new G0.out hg (fun b e => .inl (by injection e with e; have := HLT.out; omega)))
  have P2 := Lib.hid (P0.out.grown hg (fun e => by injection e with e; have := HLT.out; omega))
  have hl := (R2.out.lt : g < w2.heap.size)
  clear hc1 hd1 hs hr hg R0 G0 P0
  have B2 := Lib.hid (Row.new w2 26 (ca := #[.slice A1 l.length c1, .slice B1 ts.length d1]) rfl)
  have GB := Lib.hid (World.grownBy_alloc w2 (.cells #[.slice A1 l.length c1, .slice B1 ts.length d1] 26) (some g))
  have HHT := Lib.hid (historyTime_any (ts := ts) (d := d1) (m := l.length) (c := c1) (A := A1) (R2.out.grown (World.grownBy_alloc w2 (.cells #[.slice A1 l.length c1, .slice B1 ts.length d1] 26) none)) (by omega) (by omega) (D2.out.onG GB.out).2.1)
  have e0 := B2.out.cell 0
  have e1 := B2.out.cell 1
  simp only [List.getElem?_cons_zero, List.getElem?_cons_succ] at e0 e1
  go_wp2_with fail
  refine HHT.out.mono ?_
  rintro e w3 ⟨t1, rfl, hr3, hg3⟩
  have S3 := Lib.hid (gb_trans GB.out hg3)
  have P3 := Lib.hid (P2.out.grown S3.out (fun e => by injection e with e; have := HLT.out; omega))
  have B3 := Lib.hid (B2.out.grown hg3 (fun e => by injection e with e; have := hl; omega))
  have R3 := Lib.hid hr3
  have HT3 := Lib.hid (historyTime_any (ts := ts) (d := d1) (m := l.length) (c := c1) (A := A1) (R3.out.grown (gb_drew (gb_refl _ none))) (by omega) (by omega) (D2.out.onG (gb_drew S3.out)).2.1)
  have q0 := B3.out.cell 0
  have q1 := B3.out.cell 1
  simp only [List.getElem?_cons_zero, List.getElem?_cons_succ] at q0 q1
  clear hr3 hg3 e0 e1 HHT
  go_wp2_with fail
  go_region_law (first | (go_simp; go_at_call 17; refine Calls.mono HT3.out ?_; rintro e w4 ⟨t2, rfl, hr4, hg4⟩; have S4 : Hid (w3.grownBy w4 (some g)) := Lib.hid (gb_trans (gb_drew (gb_refl w3 (some g))) hg4); have P4 := Lib.hid (P3.out.grown S4.out (fun e => by injection e with e; have := HLT.out; omega)); have B4 := Lib.hid (B3.out.grown S4.out (fun e => by injection e with e; have := hl; omega)); have x0 := B4.out.cell 0; have x1 := B4.out.cell 1; have g0 := P4.out.cell 0; have g1 := P4.out.cell 1; have f0 := P4.out.frozen 0; have f1 := P4.out.frozen 1; simp only [List.getElem?_cons_zero, List.getElem?_cons_succ] at x0 x1 g0 g1; clear hr4 hg4))
  all_goals
    go_wp2_with fail
    refine bodyPost_ret (v := .tuple #[.agg #[.slice A1 l.length c1, .slice B1 ts.length d1], .int .i64 t1, .int .i64 t2]) (by simp [results, Try.results5, go_sem, g0, g1]) rfl ⟨⟨l, ts⟩, A1, B1, c1, d1, t1, t2, rfl, HF.out, ?_, ?_⟩
    · exact (((D2.out.onG (gb_trans S3.out S4.out)).low (p := ⟨w.heap.size, 0, none⟩) HLT.out _).low (p := ⟨w.heap.size, 1, none⟩) HLT.out _).less (Nat.le_of_lt HLT.out)
    · exact gb_setCell (gb_setCell (gb_new G2.out (gb_trans S3.out S4.out) (fun b e => .inl (by injection e with e; have := HLT.out; omega))) (.inl (Nat.le_refl _)) _) (.inl (Nat.le_refl _)) _
end Go.Proofs.Ytejbfmnioomkbaa
