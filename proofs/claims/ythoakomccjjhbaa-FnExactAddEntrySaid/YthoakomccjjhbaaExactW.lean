/- The walks of the exact laws' helpers on items: sizes, copies, comparisons. -/
import Derived.Test.YthoakomccjjhbaaIntW
import Derived.Test.YthoakomccjjhbaaBase
namespace Go.Proofs.Ythoakomccjjhbaa
open Go.RowKit
set_option linter.unusedVariables false
set_option maxRecDepth 100000

theorem szItem_any (w : World) (A : Option Addr) (k t : Int) (n c : Nat) (left r : Int) (hn : n ≤ maxLen) (h0 : 0 ≤ left) (h1 : left ≤ 1048576) (hr : (left < n ∧ r = -1) ∨ (n ≤ left ∧ r = left - n)) :
    Calls Try.prog 72 #[.agg #[.int .i64 k, .slice A n c, .int .i64 t], .int .i64 left] w fun e w' => e = .returned (.int .i64 r) ∧ w.grownBy w' none := by
  have HR := Lib.hid hr
  rcases hr with ⟨h, rfl⟩ | ⟨h, h2⟩
  · go_enter Try.func72, Try.ntmps72
    go_wp2_with (go_at_call 64; refine (szIntS_any _ A n c left (-1) hn h0 h1 HR.out).mono ?_; rintro e w' ⟨rfl, rfl⟩)
    go_ret
    exact ⟨rfl, gb_alloc (gb_refl _ _) _⟩
  · have hr0 : 0 ≤ r := by omega
    clear h2
    go_enter Try.func72, Try.ntmps72
    go_wp2_with (go_at_call 64; refine (szIntS_any _ A n c left r hn h0 h1 HR.out).mono ?_; rintro e w' ⟨rfl, rfl⟩)
    go_ret
    exact ⟨rfl, gb_alloc (gb_refl _ _) _⟩

/-- what the size of items tells -/
def SzItems (w : World) (left : Int) (L : List M.Item) (e : Ending) (w' : World) : Prop :=
  ∃ r : Int, e = .returned (.int .i64 r) ∧ r ≤ left ∧ (0 ≤ r → L.length ≤ 1048576 ∧ ∀ x ∈ L, x.pos.length ≤ 1048576) ∧ w.grownBy w' none

/-- a copy of an item, its vector in a new block -/
def Copied (w : World) (x : M.Item) (e : Ending) (w' : World) : Prop :=
  ∃ u, e = .returned (.agg #[.int .i64 x.key, u, .int .i64 x.tags]) ∧ OwnInts .i64 3 w' w.heap.size u x.pos ∧ w.grownBy w' none

theorem toItem_any (w : World) (u : Value) (lo hi : Nat) (x : M.Item) (hl : x.pos.length ≤ 1048576) (hr : RdInts .i64 w lo hi u x.pos) (hhi : hi ≤ w.heap.size) :
    Calls Try.prog 73 #[.agg #[.int .i64 x.key, u, .int .i64 x.tags]] w (Copied w x) := by
  obtain ⟨A, c, rfl, hc, hrd⟩ := hr
  obtain ⟨k, l, t⟩ := x
  have HR := Lib.hid hrd
  have hl' : l.length ≤ 1048576 := hl
  clear hrd hl
  show Calls Try.prog 73 #[.agg #[.int .i64 k, .slice A l.length c, .int .i64 t]] w _
  go_enter Try.func73, Try.ntmps73
  go_wp2_with fail
  refine calls_name (fun W => Row W w.heap.size 55 [.int .i64 k, .slice A l.length c, .int .i64 t] ∧ Row W (w.heap.size + 1) 28 [.int .i64 0, .slice none 0 0, .int .i64 0] ∧ Row W (w.heap.size + 2) 28 [.int .i64 k, .slice none 0 0, .int .i64 0] ∧ w.grownBy W none ∧ W.heap.size = w.heap.size + 3) ?_ ?_
  · refine ⟨?_, ?_, ?_, gb_alloc (gb_alloc (gb_alloc (gb_refl _ _) _) _) _, by simp⟩
    · exact ((Row.new w _ rfl).alloc _).alloc _
    · have := (Row.new (w.alloc (.cells #[.int .i64 k, .slice A l.length c, .int .i64 t] 55)) 28 (ca := #[.int .i64 0, .slice none 0 0, .int .i64 0]) rfl).alloc (.cells #[.int .i64 k, .slice none 0 0, .int .i64 0] 28)
      simpa using this
    · have := Row.new ((w.alloc (.cells #[.int .i64 k, .slice A l.length c, .int .i64 t] 55)).alloc (.cells #[.int .i64 0, .slice none 0 0, .int .i64 0] 28)) 28 (ca := #[.int .i64 k, .slice none 0 0, .int .i64 0]) rfl
      simpa using this
  rintro W ⟨r0, r1, r2, hgW, hsz⟩
  refine (toIntS_any W A c l hl' ((HR.out.agree (fun b _ h2 => (Agree.of_grown hgW) b (Nat.zero_le _) (by omega))).wide (Nat.zero_le _) (by omega))).mono ?_
  rintro e w1 ⟨v, rfl, ho, hg1⟩
  obtain ⟨Av, cv, rfl, hcv, _⟩ := ho.rd
  have q0 := r0.grown hg1 (by simp)
  have q1 := r1.grown hg1 (by simp)
  have q2 := r2.grown hg1 (by simp)
  have a00 : w1.cell? ⟨w.heap.size, 0, none⟩ = some (.int .i64 k) := q0.cell 0
  have a02 : w1.cell? ⟨w.heap.size, 2, none⟩ = some (.int .i64 t) := q0.cell 2
  have a10 : w1.cell? ⟨w.heap.size + 1, 0, none⟩ = some (.int .i64 0) := q1.cell 0
  have a11 : w1.cell? ⟨w.heap.size + 1, 1, none⟩ = some (.slice none 0 0) := q1.cell 1
  have a12 : w1.cell? ⟨w.heap.size + 1, 2, none⟩ = some (.int .i64 0) := q1.cell 2
  have f10 : w1.frozen? ⟨w.heap.size + 1, 0, none⟩ = false := q1.frozen 0
  have f11 : w1.frozen? ⟨w.heap.size + 1, 1, none⟩ = false := q1.frozen 1
  have f12 : w1.frozen? ⟨w.heap.size + 1, 2, none⟩ = false := q1.frozen 2
  have a20 : w1.cell? ⟨w.heap.size + 2, 0, none⟩ = some (.int .i64 k) := q2.cell 0
  have a21 : w1.cell? ⟨w.heap.size + 2, 1, none⟩ = some (.slice none 0 0) := q2.cell 1
  have a22 : w1.cell? ⟨w.heap.size + 2, 2, none⟩ = some (.int .i64 0) := q2.cell 2
  have f21 : w1.frozen? ⟨w.heap.size + 2, 1, none⟩ = false := q2.frozen 1
  have f22 : w1.frozen? ⟨w.heap.size + 2, 2, none⟩ = false := q2.frozen 2
  have HO := Lib.hid ho
  have HG := Lib.hid (gb_trans hgW hg1)
  have HS := Lib.hid hsz
  clear r0 r1 r2 hgW hsz ho hg1 q0 q1 q2
  go_wp2_with fail
  refine bodyPost_ret (v := .agg #[.int .i64 k, .slice Av l.length cv, .int .i64 t]) (by simp [results, Try.results73, go_sem, a10, a11, a12]) rfl ⟨_, rfl, ?_, ?_⟩
  · refine OwnInts.wide (lo := W.heap.size) ?_ (by have := HS.out; omega)
    exact ((((HO.out.set_ (by show w.heap.size + 1 + 1 < _; have := HS.out; omega) _).set_ (by show w.heap.size + 1 + 1 < _; have := HS.out; omega) _).set_ (by show w.heap.size + 1 < _; have := HS.out; omega) _).set_ (by show w.heap.size + 1 < _; have := HS.out; omega) _).set_ (by show w.heap.size + 1 < _; have := HS.out; omega) _
  · exact gb_setCell (gb_setCell (gb_setCell (gb_setCell (gb_setCell HG.out (.inl (by show _ ≤ w.heap.size + 1 + 1; omega)) _) (.inl (by show _ ≤ w.heap.size + 1 + 1; omega)) _) (.inl (by show _ ≤ w.heap.size + 1; omega)) _) (.inl (by show _ ≤ w.heap.size + 1; omega)) _) (.inl (by show _ ≤ w.heap.size + 1; omega)) _

set_option maxHeartbeats 600000 in
theorem eqItem_any (w : World) (u v : Value) (lo hi lo' hi' : Nat) (x y : M.Item) (hl : x.pos.length ≤ 1048576) (hr : RdInts .i64 w lo hi u x.pos) (hs : RdInts .i64 w lo' hi' v y.pos) (h1 : hi ≤ w.heap.size) (h2 : hi' ≤ w.heap.size) :
    Calls Try.prog 71 #[.agg #[.int .i64 x.key, u, .int .i64 x.tags], .agg #[.int .i64 y.key, v, .int .i64 y.tags]] w fun e w' => e = .returned (.bool (x.key == y.key && decide (x.pos = y.pos) && x.tags == y.tags)) ∧ w.grownBy w' none := by
  obtain ⟨A, c, rfl, hc, hrd⟩ := hr
  obtain ⟨B, d, rfl, hd, hsd⟩ := hs
  obtain ⟨k, l, t⟩ := x
  obtain ⟨k', m, t'⟩ := y
  have HR := Lib.hid hrd
  have HS := Lib.hid hsd
  have hl' : l.length ≤ 1048576 := hl
  have HC : Hid (∀ W : World, w.grownBy W none → Calls Try.prog 38 #[.slice A l.length c, .slice B m.length d] W fun e w' => e = .returned (.bool (decide (l = m))) ∧ ∃ n, w' = W.drewN n) := Lib.hid fun W hW =>
    eqIntS_any W A B c d l m lo hi lo' hi' (by omega) (HR.out.agree (fun b _ h => (Agree.of_grown hW) b (Nat.zero_le _) (by omega))) (HS.out.agree (fun b _ h => (Agree.of_grown hW) b (Nat.zero_le _) (by omega)))
  clear hrd hsd hl
  show Calls Try.prog 71 #[.agg #[.int .i64 k, .slice A l.length c, .int .i64 t], .agg #[.int .i64 k', .slice B m.length d, .int .i64 t']] w fun e w' => e = .returned (.bool (k == k' && decide (l = m) && t == t')) ∧ w.grownBy w' none
  by_cases hk : k = k'
  · subst hk
    have tk : (k != k) = false := by simp
    have G2 := Lib.hid (gb_alloc (gb_alloc (gb_refl w none) (.cells #[.int .i64 k, .slice A l.length c, .int .i64 t] 28)) (.cells #[.int .i64 k, .slice B m.length d, .int .i64 t'] 28))
    by_cases hlm : l = m
    · have HD := Lib.hid (decide_eq_true hlm)
      clear hlm
      by_cases ht : t = t'
      · subst ht
        have tt : (t != t) = false := by simp
        go_enter Try.func71, Try.ntmps71
        go_wp2_with (go_at_call 38; refine (HC.out _ G2.out).mono ?_; rintro e w' ⟨rfl, q, rfl⟩; rw [HD.out])
        go_ret
        exact ⟨ret_bool (by rw [HD.out]; simp), gb_drewN G2.out q⟩
      · have tt : (t != t') = true := by simpa using ht
        have HT := Lib.hid (beq_eq_false_iff_ne.2 ht)
        clear ht
        go_enter Try.func71, Try.ntmps71
        go_wp2_with (go_at_call 38; refine (HC.out _ G2.out).mono ?_; rintro e w' ⟨rfl, q, rfl⟩; rw [HD.out])
        go_ret
        exact ⟨ret_bool (by rw [HT.out]; simp), gb_drewN G2.out q⟩
    · have HD := Lib.hid (decide_eq_false hlm)
      clear hlm
      go_enter Try.func71, Try.ntmps71
      go_wp2_with (go_at_call 38; refine (HC.out _ G2.out).mono ?_; rintro e w' ⟨rfl, q, rfl⟩; rw [HD.out])
      go_ret
      exact ⟨ret_bool (by rw [HD.out]; simp), gb_drewN G2.out q⟩
  · have tk : (k != k') = true := by simpa using hk
    have HK := Lib.hid (beq_eq_false_iff_ne.2 hk)
    clear hk
    go_enter Try.func71, Try.ntmps71
    go_wp2_with fail
    go_ret
    exact ⟨ret_bool (by rw [HK.out]; simp), gb_alloc (gb_alloc (gb_refl _ _) _) _⟩

theorem info_item : (Try.prog.info? 28).map (fun i => (i.zero, i.size, i.bytes)) = some (some (.agg #[.int .i64 0, .slice none 0 0, .int .i64 0]), 3, 40) := by kernel_rfl

end Go.Proofs.Ythoakomccjjhbaa
