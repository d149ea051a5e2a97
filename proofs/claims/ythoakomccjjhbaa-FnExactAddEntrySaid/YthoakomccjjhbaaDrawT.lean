/- The walks of the draws of times, and of the histories that the laws are given. -/
import Derived.Test.YthoakomccjjhbaaDrawH
namespace Go.Proofs.Ythoakomccjjhbaa
open Go.RowKit
set_option linter.unusedVariables false
set_option linter.unusedSimpArgs false
set_option maxRecDepth 100000

/-- some number was drawn -/
def TimeDrawn (w : World) (g p : Nat) (e : Ending) (w' : World) : Prop := ∃ t : Int, e = .returned (.int .i64 t) ∧ RdrB w' g p ∧ w.grownBy w' (some g)
set_option maxHeartbeats 4000000 in
theorem historyTime_walk (w : World) (g p m c n d b o : Nat) (A : Option Addr) (f : Nat → Int) (hr : RdrB w g p) (hp : p ≤ 900000) (hn : 0 < n) (hl : n ≤ 1000000) (hf : ∀ W, w.grownBy W (some g) → ∀ k < n, W.cell? ⟨b, o + k, none⟩ = some (.int .i64 (f k))) :
    Calls Try.prog 78 #[.pointer (some ⟨g, 0, none⟩), .agg #[.slice A m c, .slice (some ⟨b, o, none⟩) n d]] w (TimeDrawn w g (p + 3)) := by
  have HLT := Lib.hid hr.lt
  have R0 := Lib.hid (hr.grown (World.grownBy_alloc w (.cells #[.slice A m c, .slice (some ⟨b, o, none⟩) n d] 26) none))
  have B0 := Lib.hid (Row.new w 26 (ca := #[.slice A m c, .slice (some ⟨b, o, none⟩) n d]) rfl)
  have G0 := Lib.hid (World.grownBy_alloc w (.cells #[.slice A m c, .slice (some ⟨b, o, none⟩) n d] 26) (some g))
  have HF := Lib.hid hf
  clear hr hf
  have t0 : (0 : Int) < n := by omega
  go_enter Try.func78, Try.ntmps78
  go_wp2_with fail
  refine (pick_b _ _ p 4 R0.out (by omega) (by omega) (by omega)).mono ?_
  rintro e w1 ⟨x, hx0, hx1, rfl, hr, hg⟩
  have R1 := Lib.hid hr
  have B1 := Lib.hid (B0.out.grown hg (by simp; have := HLT.out; omega))
  have G1 := Lib.hid (gb_trans G0.out hg)
  have e1 := B1.out.cell 1
  simp only [List.getElem?_cons_zero, List.getElem?_cons_succ] at e1
  clear hr hg R0 B0 G0
  by_cases hx : 0 < x
  · have e1a := (B1.out.alloc (.cells #[.int .i64 0, .int .i64 0, .int .i64 (-1), .int .i64 1] 3)).cell 1
    simp only [List.getElem?_cons_zero, List.getElem?_cons_succ] at e1a
    go_wp2_with fail
    go_region_law (first | (go_simp; go_at_call 80; refine Calls.mono (pick_b _ g (p + 1) n (R1.out.grown (gb_drew (gb_refl _ none))) (by omega) (by omega) (by omega)) ?_; rintro e w2 ⟨i, hi0, hi1, rfl, hr2, hg2⟩; obtain ⟨k, rfl⟩ := Int.eq_ofNat_of_zero_le hi0; have hkn : k < n := (by omega); have S2 : Hid (w1.grownBy w2 (some g)) := Lib.hid (gb_trans (gb_drew (gb_refl w1 (some g))) hg2); have R2 := Lib.hid hr2; have B2 := Lib.hid (B1.out.grown S2.out (fun e => by injection e with e; have := HLT.out; omega)); have c2 := HF.out w2 (gb_trans G1.out S2.out) k hkn; have c2a := HF.out (w2.alloc (.cells #[.int .i64 0, .int .i64 0, .int .i64 (-1), .int .i64 1] 3)) (gb_alloc (gb_trans G1.out S2.out) _) k hkn; have b1 := B2.out.cell 1; have b1a := (B2.out.alloc (.cells #[.int .i64 0, .int .i64 0, .int .i64 (-1), .int .i64 1] 3)).cell 1; simp only [List.getElem?_cons_zero, List.getElem?_cons_succ] at b1 b1a; clear hr2 hg2) | (go_simp; go_at_call 80; refine Calls.mono (pick_b _ g (p + 1) n (R1.out.grown (gb_drew (World.grownBy_alloc w1 (.cells #[.int .i64 0, .int .i64 0, .int .i64 (-1), .int .i64 1] 3) none))) (by omega) (by omega) (by omega)) ?_; rintro e w2 ⟨i, hi0, hi1, rfl, hr2, hg2⟩; obtain ⟨k, rfl⟩ := Int.eq_ofNat_of_zero_le hi0; have hkn : k < n := (by omega); have S2 : Hid (w1.grownBy w2 (some g)) := Lib.hid (gb_trans (gb_drew (World.grownBy_alloc w1 (.cells #[.int .i64 0, .int .i64 0, .int .i64 (-1), .int .i64 1] 3) (some g))) hg2); have RL : Hid (RdInts .i64 w2 (g + 1) w2.heap.size (.slice (some ⟨w1.heap.size, 0, none⟩) 4 4) [0, 0, -1, 1]) := Lib.hid (((RdInts.lit_at .i64 rfl (by have := R1.out.lt; omega) (by simp) _ _ rfl rfl : RdInts .i64 (w1.alloc (.cells #[.int .i64 0, .int .i64 0, .int .i64 (-1), .int .i64 1] 3)) (g + 1) (w1.alloc (.cells #[.int .i64 0, .int .i64 0, .int .i64 (-1), .int .i64 1] 3)).heap.size (.slice (some ⟨w1.heap.size, 0, none⟩) 4 4) [0, 0, -1, 1]).agree (Agree.of_grown_some (gb_trans (gb_drew (gb_refl (w1.alloc (.cells #[.int .i64 0, .int .i64 0, .int .i64 (-1), .int .i64 1] 3)) (some g))) hg2))).wide (Nat.le_refl _) hg2.size); have R2 := Lib.hid hr2; have B2 := Lib.hid (B1.out.grown S2.out (fun e => by injection e with e; have := HLT.out; omega)); have c2 := HF.out w2 (gb_trans G1.out S2.out) k hkn; have b1 := B2.out.cell 1; simp only [List.getElem?_cons_zero, List.getElem?_cons_succ] at b1; clear hr2 hg2) | (go_simp; go_at_call 46; refine Calls.mono (one_b _ g (p + 1 + 1) _ [0, 0, -1, 1] (R2.out.grown (World.grownBy_alloc _ (.cells #[.int .i64 0, .int .i64 0, .int .i64 (-1), .int .i64 1] 3) none)) (by omega) (by simp) (by simp) (RdInts.lit_at .i64 rfl (by have := R2.out.lt; omega) (by simp) _ _ rfl rfl)) ?_; rintro e w3 ⟨v, hv, rfl, hr3, hg3⟩; have S3 : Hid (w2.grownBy w3 (some g)) := Lib.hid (gb_trans (World.grownBy_alloc w2 (.cells #[.int .i64 0, .int .i64 0, .int .i64 (-1), .int .i64 1] 3) (some g)) hg3); have R3 := Lib.hid hr3; have B3 := Lib.hid (B2.out.grown S3.out (fun e => by injection e with e; have := HLT.out; omega)); have c3 := HF.out w3 (gb_trans (gb_trans G1.out S2.out) S3.out) k hkn; have d1 := B3.out.cell 1; simp only [List.getElem?_cons_zero, List.getElem?_cons_succ] at d1; clear hr3 hg3 hv) | (go_simp; go_at_call 46; refine Calls.mono (one_b _ g (p + 1 + 1) _ [0, 0, -1, 1] R2.out (by omega) (by simp) (by simp) RL.out) ?_; rintro e w3 ⟨v, hv, rfl, hr3, hg3⟩; have S3 : Hid (w2.grownBy w3 (some g)) := Lib.hid hg3; have R3 := Lib.hid hr3; have B3 := Lib.hid (B2.out.grown S3.out (fun e => by injection e with e; have := HLT.out; omega)); have c3 := HF.out w3 (gb_trans (gb_trans G1.out S2.out) S3.out) k hkn; have d1 := B3.out.cell 1; simp only [List.getElem?_cons_zero, List.getElem?_cons_succ] at d1; clear hr3 hg3 hv))
    all_goals
      go_wp2_with fail
      go_ret
      exact ⟨_, rfl, R3.out, gb_trans (gb_trans G1.out S2.out) S3.out⟩
  · have hx' : x = 0 := by omega
    subst hx'
    go_wp2_with fail
    refine (one_b _ _ (p + 1) _ [0, 1000, 1001, -1, 50] (R1.out.grown (World.grownBy_alloc _ _ none)) (by omega) (by simp) (by simp) (RdInts.lit_at .i64 rfl (by have := R1.out.lt; omega) (by simp) _ _ rfl rfl)).mono ?_
    rintro e w2 ⟨v, hv, rfl, hr2, hg2⟩
    go_wp2_with fail
    go_ret
    exact ⟨_, rfl, hr2.mono (by omega), gb_trans (gb_alloc G1.out _) hg2⟩
theorem historyTime_any {w : World} {g p m c d : Nat} {A B : Option Addr} {ts : List Int} (hr : RdrB w g p) (hp : p ≤ 900000) (hl : ts.length ≤ 1000000) (hB : Rd w (g + 1) w.heap.size B (ts.map (.int .i64))) :
    Calls Try.prog 78 #[.pointer (some ⟨g, 0, none⟩), .agg #[.slice A m c, .slice B ts.length d]] w (TimeDrawn w g (p + 3)) := by
  by_cases hn : 0 < ts.length
  · obtain ⟨b, o, rfl, hb1, hb2, hc⟩ := hB (by intro h; have := congrArg List.length h; simp at this; subst this; simp at hn)
    refine historyTime_walk w g p m c ts.length d b o A (fun k => ts.getD k 0) hr hp hn hl (fun W hg k hk => ?_)
    rw [(Agree.of_grown_some hg).cell (p := ⟨b, o + k, none⟩) hb1 hb2, hc k (.int .i64 (ts.getD k 0)) (by simp [hk])]
  · have hz : ts.length = 0 := by omega
    rw [hz]
    have HLT := Lib.hid hr.lt
    have R0 := Lib.hid (hr.grown (World.grownBy_alloc w (.cells #[.slice A m c, .slice B 0 d] 26) none))
    have G0 := Lib.hid (World.grownBy_alloc w (.cells #[.slice A m c, .slice B 0 d] 26) (some g))
    clear hB hr hz hn hl
    go_enter Try.func78, Try.ntmps78
    go_wp2_with fail
    refine (one_b _ _ p _ [0, 1000, 1001, -1, 50] (R0.out.grown (World.grownBy_alloc _ _ none)) (by omega) (by simp) (by simp) (RdInts.lit_at .i64 (by simp) (by have := HLT.out; omega) (by simp) _ _ rfl rfl)).mono ?_
    rintro e w2 ⟨v, hv, rfl, hr2, hg2⟩
    go_wp2_with fail
    go_ret
    exact ⟨_, rfl, hr2.mono (by omega), gb_trans (gb_alloc G0.out _) hg2⟩
end Go.Proofs.Ythoakomccjjhbaa
