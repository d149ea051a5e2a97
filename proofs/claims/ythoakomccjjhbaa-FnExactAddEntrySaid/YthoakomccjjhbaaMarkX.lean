/- The walk of the held marks of histories. -/
import Derived.Test.YthoakomccjjhbaaMarkH
namespace Go.Proofs.Ythoakomccjjhbaa
open Go.RowKit
set_option linter.unusedVariables false
set_option linter.unusedSimpArgs false
set_option maxRecDepth 100000

set_option maxHeartbeats 2000000 in
theorem heldHistory_any {w : World} {A B : Option Addr} {c d lo hi n1 n2 : Nat} {LV : List (M.Entry × Value)} {k : Int} (hn1 : n1 = LV.length) (hn2 : n2 ≤ 1048576) (hs : SmallE (LV.map (·.1))) (ho : OwnHM w lo hi (.slice A n1 c) (.slice B n2 d) (renLE k LV) (ren (k + szE LV) n2)) (h0 : 0 ≤ k) (h1 : k ≤ 3298000000000) (hh : hi ≤ w.heap.size) :
    Calls Try.prog 27 #[.agg #[.slice A n1 c, .slice B n2 d], .int .i64 k] w fun e w' => e = .returned (.int .i64 (k + szE LV + n2)) ∧ w.grownBy w' none := by
  have G0 := Lib.hid (World.grownBy_alloc w (.cells #[.slice A n1 c, .slice B n2 d] 26) none)
  have B0 := Lib.hid (Row.new w 26 (ca := #[.slice A n1 c, .slice B n2 d]) rfl)
  have HO := ho.agree (w' := w.alloc (.cells #[.slice A n1 c, .slice B n2 d] 26)) (fun b _ hb => G0.out.block b (by omega) (by simp))
  have hsz := szE_small hs
  obtain ⟨q, hq⟩ : ∃ q, q = k + (szE LV : Int) := ⟨_, rfl⟩
  obtain ⟨z, hz⟩ : ∃ z, z = q + (n2 : Int) := ⟨_, rfl⟩
  have HE : Hid (Calls Try.prog 69 #[.slice A n1 c, .int .i64 k] (w.alloc (.cells #[.slice A n1 c, .slice B n2 d] 26)) fun e w' => e = .returned (.int .i64 q) ∧ (w.alloc (.cells #[.slice A n1 c, .slice B n2 d] 26)) = w') := Lib.hid (by
    rw [hq]
    exact hes_any hn1 hs HO.1 h0 h1)
  have HI : Hid (Calls Try.prog 40 #[.slice B n2 d, .int .i64 q] (w.alloc (.cells #[.slice A n1 c, .slice B n2 d] 26)) fun e w' => e = .returned (.int .i64 z) ∧ (w.alloc (.cells #[.slice A n1 c, .slice B n2 d] 26)) = w') := Lib.hid (by
    rw [hz, hq]
    exact heldIntS_any _ B d _ _ n2 (k + szE LV) hn2 HO.2.1.rd (by omega) (by omega))
  have hq0 : 0 ≤ q := by omega
  have hz0 : 0 ≤ z := by omega
  rw [← hq, ← hz]
  clear ho hs hq hz HO hsz hn1
  go_enter Try.func27, Try.ntmps27
  go_wp2_with fail
  refine HE.out.mono ?_
  rintro e w1 ⟨rfl, hw⟩
  have HI1 := Lib.hid (hw ▸ HI.out)
  have B1 := Lib.hid (hw ▸ B0.out)
  have G1 : Hid (w.grownBy w1 none) := Lib.hid (hw ▸ G0.out)
  have q1 := B1.out.cell 1
  simp only [List.getElem?_cons_zero, List.getElem?_cons_succ] at q1
  clear HI B0 G0 hw HE
  go_wp2_with fail
  refine HI1.out.mono ?_
  rintro e w2 ⟨rfl, rfl⟩
  go_wp2_with fail
  go_ret
  exact ⟨rfl, G1.out⟩
end Go.Proofs.Ythoakomccjjhbaa
