/- The walks of the marks of one entry. -/
import Derived.Test.YthoakomccjjhbaaMarkX
namespace Go.Proofs.Ythoakomccjjhbaa
open Go.RowKit
set_option linter.unusedVariables false
set_option linter.unusedSimpArgs false
set_option maxRecDepth 100000

set_option maxHeartbeats 1000000 in
theorem markItem_one {w : World} {A : Option Addr} {c lo hi n : Nat} {q t k : Int} {l : List Int} (hn : n = l.length) (hl : l.length ≤ 1048576) (ho : OwnIn .i64 3 w lo hi (.slice A n c) l) (hh : hi ≤ w.heap.size) (h0 : 0 ≤ k) (h1 : k ≤ 4398046511104) :
    Calls Try.prog 74 #[.agg #[.int .i64 q, .slice A n c, .int .i64 t], .int .i64 k] w fun e w' => e = .returned (.int .i64 (k + n)) ∧ Wrote lo hi w w' := by
  have G0 := Lib.hid (World.grownBy_alloc w (.cells #[.int .i64 q, .slice A n c, .int .i64 t] 28) none)
  have B0 := Lib.hid (Row.new w 28 (ca := #[.int .i64 q, .slice A n c, .int .i64 t]) rfl)
  have HO := Lib.hid (ho.agree (w' := w.alloc (.cells #[.int .i64 q, .slice A n c, .int .i64 t] 28)) (fun b _ hb => G0.out.block b (by omega) (by simp)))
  have HM : Hid (Calls Try.prog 39 #[.slice A n c, .int .i64 k] (w.alloc (.cells #[.int .i64 q, .slice A n c, .int .i64 t] 28)) fun e w' => e = .returned (.int .i64 (k + n)) ∧ Wrote lo hi (w.alloc (.cells #[.int .i64 q, .slice A n c, .int .i64 t] 28)) w') := Lib.hid (by
    subst hn
    refine (markIntS_any _ A c lo l k hl HO.out.1 h0 h1).mono ?_
    rintro e w' ⟨he, _, hg⟩
    exact ⟨he, (Wrote.refl lo hi _).grown hg (fun b hb => ⟨(HO.out.1.lt b hb).1, HO.out.2 b hb⟩)⟩)
  have q1 := B0.out.cell 1
  simp only [List.getElem?_cons_zero, List.getElem?_cons_succ] at q1
  clear ho hn HO hl
  go_enter Try.func74, Try.ntmps74
  go_wp2_with fail
  refine HM.out.mono ?_
  rintro e w1 ⟨rfl, hw⟩
  have W1 := Lib.hid hw
  clear hw q1 HM
  go_wp2_with fail
  go_ret
  exact ⟨rfl, ((Wrote.refl lo hi w).grown G0.out (by simp)).trans W1.out⟩
set_option maxHeartbeats 1000000 in
theorem markEntry_one {w : World} {A : Option Addr} {c lo hi n : Nat} {p q t k : Int} {l : List Int} (hn : n = l.length) (hl : l.length ≤ 1048576) (ho : OwnIn .i64 3 w lo hi (.slice A n c) l) (hh : hi ≤ w.heap.size) (h0 : 0 ≤ k) (h1 : k ≤ 4398046511104) :
    Calls Try.prog 35 #[.agg #[.int .i64 p, .int .i64 q, .slice A n c, .int .i64 t], .int .i64 k] w fun e w' => e = .returned (.int .i64 (k + n)) ∧ Wrote lo hi w w' := by
  have G0 := Lib.hid (World.grownBy_alloc w (.cells #[.int .i64 p, .int .i64 q, .slice A n c, .int .i64 t] 30) none)
  have B0 := Lib.hid (Row.new w 30 (ca := #[.int .i64 p, .int .i64 q, .slice A n c, .int .i64 t]) rfl)
  have HO := ho.agree (w' := w.alloc (.cells #[.int .i64 p, .int .i64 q, .slice A n c, .int .i64 t] 30)) (fun b _ hb => G0.out.block b (by omega) (by simp))
  have HM := Lib.hid (markItem_one (q := q) (t := t) hn hl HO (by have := G0.out.size; omega) h0 h1)
  have q1 := B0.out.cell 1
  have q2 := B0.out.cell 2
  have q3 := B0.out.cell 3
  simp only [List.getElem?_cons_zero, List.getElem?_cons_succ] at q1 q2 q3
  clear ho hn HO hl
  go_enter Try.func35, Try.ntmps35
  go_wp2_with fail
  refine HM.out.mono ?_
  rintro e w1 ⟨rfl, hw⟩
  have W1 := Lib.hid hw
  clear hw q1 q2 q3 HM
  go_wp2_with fail
  go_ret
  exact ⟨rfl, ((Wrote.refl lo hi w).grown G0.out (by simp)).trans W1.out⟩
end Go.Proofs.Ythoakomccjjhbaa
