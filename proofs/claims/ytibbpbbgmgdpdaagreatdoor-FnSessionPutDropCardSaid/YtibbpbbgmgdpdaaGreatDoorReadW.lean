/- The walks of the reader from which the arguments are drawn: what it yields lies in a range; the rest of memory stands. -/
import Derived.Test.YtibbpbbgmgdpdaaGreatDoorRows
import Derived.Test.YtibbpbbgmgdpdaaGreatDoorBase
import Derived.Test.YtibbpbbgmgdpdaaGreatDoorPure
import Derived.Deep.QuietTactic
import Derived.BigQuiet
import Derived.Deep.RegionWith
import Derived.Laws.BitsAllLaws
import Derived.Laws.BitsLemmas
namespace Go.Proofs.YtibbpbbgmgdpdaaGreatDoor
open Go.RowKit
set_option linter.unusedVariables false
set_option maxRecDepth 100000

theorem ofInt_i64 (a : Nat) (ha : a < 9223372036854775808) : (BitVec.ofInt 64 (a : Int)).toNat = a := by
  rw [BitVec.ofInt_natCast, BitVec.toNat_ofNat]; exact Nat.mod_eq_of_lt (by omega)
theorem xor_range (x y : Int) (hx0 : 0 ≤ x) (hx : x ≤ 4611686018427387904) (hy0 : 0 ≤ y) (hy : y ≤ 4611686018427387904) : 0 ≤ bits .xor .i64 x y := by
  obtain ⟨a, rfl⟩ := Int.eq_ofNat_of_zero_le hx0
  obtain ⟨b, rfl⟩ := Int.eq_ofNat_of_zero_le hy0
  have hxx : a ^^^ b < 2 ^ 63 := Nat.xor_lt_two_pow (by omega) (by omega)
  show 0 ≤ IntKind.i64.wrap ((BitVec.ofInt 64 (a : Int) ^^^ BitVec.ofInt 64 (b : Int)).toNat : Int)
  rw [BitVec.toNat_xor, ofInt_i64 a (by omega), ofInt_i64 b (by omega), IntKind.wrap_i64]
  omega

theorem tmod_range {a n : Int} (h : 0 ≤ a) (hn : 1 ≤ n) : 0 ≤ a.tmod n ∧ a.tmod n < n := by
  rw [Int.tmod_eq_emod_of_nonneg h]
  exact ⟨Int.emod_nonneg _ (by omega), Int.emod_lt_of_pos _ (by omega)⟩

/-- the reader in block g: it has given p numbers; its code lies below g -/
def Rdr (w : World) (g p : Nat) : Prop :=
  ∃ (A : Option Addr) (c : Nat) (bs : List Int), w.heap[g]? = some (.cells #[.slice A bs.length c, .int .i64 p] 49 (0, 0)) ∧ bs.length ≤ 2000 ∧ bs.length ≤ c ∧ (∀ x ∈ bs, 0 ≤ x ∧ x ≤ 255) ∧ Rd w 0 g A (bs.map (.int .u8))
theorem Rdr.lt {w : World} {g p : Nat} (h : Rdr w g p) : g < w.heap.size := by
  obtain ⟨A, c, bs, hb, _⟩ := h
  exact lt_of_block hb
theorem Rdr.grown {w w' : World} {g p : Nat} (h : Rdr w g p) (hg : w.grownBy w' none) : Rdr w' g p := by
  have hl := h.lt
  obtain ⟨A, c, bs, hb, h1, h2, h3, h4⟩ := h
  exact ⟨A, c, bs, (hg.block g hl (by simp)).trans hb, h1, h2, h3, h4.agree (fun b _ hlt => hg.block b (by omega) (by simp))⟩
/-- where only blocks above the reader's were written -/
theorem Rdr.agree {w w' : World} {g p : Nat} (h : Rdr w g p) (ha : Agree 0 (g + 1) w w') : Rdr w' g p := by
  obtain ⟨A, c, bs, hb, h1, h2, h3, h4⟩ := h
  exact ⟨A, c, bs, (ha g (by omega) (by omega)).trans hb, h1, h2, h3, h4.agree (fun b h5 hlt => ha b h5 (by omega))⟩
/-- where a row above the reader's was written -/
theorem Rdr.row {w w' : World} {g p : Nat} {r : Option Nat} (h : Rdr w g p) (hg : w.grownBy w' r) (hr : ∀ k, r = some k → g < k) : Rdr w' g p :=
  h.agree fun b _ hb => hg.block b (by have := h.lt; omega) (fun e => by have := hr b e.symm; omega)
theorem Rdr.new {w : World} {A : Option Addr} {c : Nat} {bs : List Int} (h1 : bs.length ≤ 2000) (h2 : bs.length ≤ c) (h3 : ∀ x ∈ bs, 0 ≤ x ∧ x ≤ 255) (h4 : Rd w 0 w.heap.size A (bs.map (.int .u8))) :
    Rdr (w.alloc (.cells #[.slice A bs.length c, .int .i64 0] 49)) w.heap.size 0 :=
  ⟨A, c, bs, heap_alloc_new w _, h1, h2, h3, h4.agree (fun b _ hlt => Below.heap_alloc w _ b hlt)⟩

/-- a number was picked -/
def Picked (w : World) (g p : Nat) (n : Int) (e : Ending) (w' : World) : Prop := ∃ v : Int, 0 ≤ v ∧ v < n ∧ e = .returned (.int .i64 v) ∧ Rdr w' g (p + 1) ∧ w.grownBy w' (some g)

theorem picked_store {w : World} {g p : Nat} {A : Option Addr} {c : Nat} {bs : List Int} (hb : w.heap[g]? = some (.cells #[.slice A bs.length c, .int .i64 p] 49 (0, 0))) (h1 : bs.length ≤ 2000) (h2 : bs.length ≤ c)
    (h3 : ∀ x ∈ bs, 0 ≤ x ∧ x ≤ 255) (h4 : Rd w 0 g A (bs.map (.int .u8))) (q : Nat) :
    Rdr (w.setCell ⟨g, 1, none⟩ (.int .i64 ((q : Nat) : Int))) g q ∧ w.grownBy (w.setCell ⟨g, 1, none⟩ (.int .i64 ((q : Nat) : Int))) (some g) := by
  refine ⟨⟨A, c, bs, ?_, h1, h2, h3, h4.agree (fun b _ hlt => Below.heap_setCell w _ _ b (by show b ≠ g; omega))⟩, gb_setCell (gb_refl _ _) (.inr rfl) _⟩
  simp [World.setCell, Array.getElem?_modify, hb]

/-- the walk, the code empty -/
theorem pick_none (w : World) (g p : Nat) (n : Int) (A : Option Addr) (c : Nat) (hp : p ≤ 1000000) (hn1 : 1 ≤ n) (hn2 : n ≤ 1000000)
    (c0 : w.cell? ⟨g, 0, none⟩ = some (.slice A 0 c)) (c1 : w.cell? ⟨g, 1, none⟩ = some (.int .i64 p)) (f1 : w.frozen? ⟨g, 1, none⟩ = false) :
    Calls Tryz.prog 17 #[.pointer (some ⟨g, 0, none⟩), .int .i64 n] w fun e w' => e = .returned (.int .i64 0) ∧ w' = w.setCell ⟨g, 1, none⟩ (.int .i64 ((p : Int) + 1)) := by
  go_enter Tryz.func17, Tryz.ntmps17
  go_wp2
  go_ret
  exact ⟨rfl, rfl⟩
/-- the walk, a byte of the code -/
theorem pick_byte (w : World) (g p b o L c : Nat) (n x : Int) (hp : p ≤ 1000000) (hn1 : 1 ≤ n) (hn2 : n ≤ 1000000) (hL : L ≤ 2000) (hpL : p < L) (hx0 : 0 ≤ x) (hx1 : x ≤ 255) (hne : ¬ b = g) (hne' : ¬ g = b)
    (c0 : w.cell? ⟨g, 0, none⟩ = some (.slice (some ⟨b, o, none⟩) L c)) (c1 : w.cell? ⟨g, 1, none⟩ = some (.int .i64 p)) (f1 : w.frozen? ⟨g, 1, none⟩ = false) (cx : w.cell? ⟨b, o + p, none⟩ = some (.int .u8 x)) (t1 : decide (n < 1) = false) (t2 : ((L : Int) == 0) = false) :
    Calls Tryz.prog 17 #[.pointer (some ⟨g, 0, none⟩), .int .i64 n] w fun e w' => e = .returned (.int .i64 (x % n)) ∧ w' = w.setCell ⟨g, 1, none⟩ (.int .i64 ((p : Int) + 1)) := by
  go_enter Tryz.func17, Tryz.ntmps17
  go_wp2
  go_ret
  exact ⟨rfl, rfl⟩
/-- the walk, the mixture -/
theorem pick_mix (w : World) (g p b o L c i j q : Nat) (n x y : Int) (hp : p ≤ 1000000) (hn1 : 1 ≤ n) (hn2 : n ≤ 1000000) (hL : L ≤ 2000) (hpL : L ≤ p) (hx0 : 0 ≤ x) (hx1 : x ≤ 255) (hy0 : 0 ≤ y) (hy1 : y ≤ 255) (hne : ¬ b = g) (hne' : ¬ g = b)
    (c0 : w.cell? ⟨g, 0, none⟩ = some (.slice (some ⟨b, o, none⟩) L c)) (c1 : w.cell? ⟨g, 1, none⟩ = some (.int .i64 p)) (f1 : w.frozen? ⟨g, 1, none⟩ = false)
    (cx : w.cell? ⟨b, o + i, none⟩ = some (.int .u8 x)) (cy : w.cell? ⟨b, o + j, none⟩ = some (.int .u8 y)) (t1 : decide (n < 1) = false) (t2 : ((L : Int) == 0) = false) (t3 : ¬ L = 0)
    (hi : (i : Int) < L) (hj : (j : Int) < L) (hq : q ≤ 1000000) (ei : Int.tmod p L = (i : Int)) (ej : Int.tmod ((p : Int) * 7 + 3) L = (j : Int)) (eq : IntKind.i64.wrap (Int.tdiv p L) = (q : Int)) (eq2 : (p : Int) / (L : Int) = (q : Int))
    (w1 : IntKind.i64.wrap ((p : Int) * 7) = (p : Int) * 7) (w2 : IntKind.i64.wrap ((p : Int) * 7 + 3) = (p : Int) * 7 + 3) (w3 : IntKind.i64.wrap (x * 131) = x * 131) (w4 : IntKind.i64.wrap (y * 1117) = y * 1117)
    (w5 : IntKind.i64.wrap (x * 131 + y * 1117) = x * 131 + y * 1117) (w6 : IntKind.i64.wrap ((p : Int) * 29) = (p : Int) * 29) (w7 : IntKind.i64.wrap (x * 131 + y * 1117 + (p : Int) * 29) = x * 131 + y * 1117 + (p : Int) * 29)
    (w8 : IntKind.i64.wrap ((q : Int) * 53) = (q : Int) * 53) (w9 : IntKind.i64.wrap (x * 131 + y * 1117 + (p : Int) * 29 + (q : Int) * 53) = x * 131 + y * 1117 + (p : Int) * 29 + (q : Int) * 53) :
    Calls Tryz.prog 17 #[.pointer (some ⟨g, 0, none⟩), .int .i64 n] w fun e w' => (∃ z, e = .returned (.int .i64 z) ∧ 0 ≤ z ∧ z < n) ∧ ∃ k, w' = (w.setCell ⟨g, 1, none⟩ (.int .i64 ((p : Int) + 1))).drewN k := by
  go_enter Tryz.func17, Tryz.ntmps17
  go_wp2
  go_quiet (fail)
  go_wp2
  go_ret
  refine ⟨⟨_, rfl, ?_⟩, _, rfl⟩
  exact tmod_range (xor_range _ _ (by omega) (by omega) (by omega) (by omega)) hn1

theorem pick_any (w : World) (g p : Nat) (n : Int) (hr : Rdr w g p) (hp : p ≤ 1000000) (hn1 : 1 ≤ n) (hn2 : n ≤ 1000000) :
    Calls Tryz.prog 17 #[.pointer (some ⟨g, 0, none⟩), .int .i64 n] w (Picked w g p n) := by
  obtain ⟨A, c, bs, hb, h1, h2, h3, h4⟩ := hr
  have S := picked_store hb h1 h2 h3 h4 (p + 1)
  have c0 : w.cell? ⟨g, 0, none⟩ = some (.slice A bs.length c) := by simp [World.cell?, hb]
  have c1 : w.cell? ⟨g, 1, none⟩ = some (.int .i64 p) := by simp [World.cell?, hb]
  have f1 : w.frozen? ⟨g, 1, none⟩ = false := by simp [World.frozen?, hb]
  have t1 : decide (n < 1) = false := by simp; omega
  by_cases hz : bs.length = 0
  · rw [hz] at c0
    refine (pick_none w g p n A c hp hn1 hn2 c0 c1 f1).mono ?_
    rintro e w' ⟨rfl, rfl⟩
    exact ⟨0, by omega, by omega, rfl, S.1, S.2⟩
  · have t2 : ((bs.length : Int) == 0) = false := beq_eq_false_iff_ne.2 (by omega)
    have hcell : ∀ i (hi : i < bs.length), ∃ b o, A = some ⟨b, o, none⟩ ∧ b < g ∧ w.cell? ⟨b, o + i, none⟩ = some (.int .u8 bs[i]) := fun i hi => by
      obtain ⟨b, o, e, _, hbg, hc⟩ := h4.at_ (j := i) (u := .int .u8 bs[i]) (by simp [hi])
      exact ⟨b, o, e, hbg, hc⟩
    by_cases hk : p < bs.length
    · obtain ⟨b, o, rfl, hbg, hc⟩ := hcell p hk
      have hx := h3 bs[p] (List.getElem_mem hk)
      refine (pick_byte w g p b o bs.length c n bs[p] hp hn1 hn2 h1 hk hx.1 hx.2 (by omega) (by omega) c0 c1 f1 hc t1 t2).mono ?_
      rintro e w' ⟨rfl, rfl⟩
      exact ⟨bs[p] % n, Int.emod_nonneg _ (by omega), Int.emod_lt_of_pos _ (by omega), rfl, S.1, S.2⟩
    · obtain ⟨b, o, rfl, hbg, hc⟩ := hcell (p % bs.length) (Nat.mod_lt _ (by omega))
      obtain ⟨b', o', e', _, hc'⟩ := hcell ((p * 7 + 3) % bs.length) (Nat.mod_lt _ (by omega))
      simp only [Option.some.injEq, Addr.mk.injEq, and_true] at e'
      obtain ⟨rfl, rfl⟩ := e'
      have hx := h3 _ (List.getElem_mem (Nat.mod_lt p (show 0 < bs.length by omega)))
      have hy := h3 _ (List.getElem_mem (Nat.mod_lt (p * 7 + 3) (show 0 < bs.length by omega)))
      obtain ⟨q, hq0⟩ : ∃ q, q = p / bs.length := ⟨_, rfl⟩
      have hq : q ≤ p := by rw [hq0]; exact Nat.div_le_self _ _
      have hi := Nat.mod_lt p (show 0 < bs.length by omega)
      have hj := Nat.mod_lt (p * 7 + 3) (show 0 < bs.length by omega)
      have ei : Int.tmod (p : Int) (bs.length : Int) = ((p % bs.length : Nat) : Int) := by rw [Int.tmod_eq_emod_of_nonneg (by omega)]; rfl
      have ej : Int.tmod ((p : Int) * 7 + 3) (bs.length : Int) = (((p * 7 + 3) % bs.length : Nat) : Int) := by rw [Int.tmod_eq_emod_of_nonneg (by omega)]; rfl
      have ed : (p : Int) / (bs.length : Int) = (q : Int) := by rw [hq0]; rfl
      have et : IntKind.i64.wrap (Int.tdiv (p : Int) (bs.length : Int)) = (q : Int) := by rw [Int.tdiv_eq_ediv_of_nonneg (by omega), ed]; exact IntWalk.i64_in _ (by omega)
      refine (pick_mix w g p b o bs.length c _ _ _ n _ _ hp hn1 hn2 h1 (by omega) hx.1 hx.2 hy.1 hy.2 (by omega) (by omega) c0 c1 f1 hc hc' t1 t2 hz (by omega) (by omega) (by omega) ei ej et ed
        (IntWalk.i64_in _ (by omega)) (IntWalk.i64_in _ (by omega)) (IntWalk.i64_in _ (by omega)) (IntWalk.i64_in _ (by omega)) (IntWalk.i64_in _ (by omega)) (IntWalk.i64_in _ (by omega)) (IntWalk.i64_in _ (by omega)) (IntWalk.i64_in _ (by omega)) (IntWalk.i64_in _ (by omega))).mono ?_
      rintro e w' ⟨⟨z, rfl, hz0, hz1⟩, k, rfl⟩
      exact ⟨z, hz0, hz1, rfl, S.1, gb_drewN S.2 k⟩

theorem newReader_any (w : World) (A : Option Addr) (c : Nat) (bs : List Int) (h2 : bs.length ≤ c) (hb : bs.length ≤ 1048576) (h3 : ∀ x ∈ bs, 0 ≤ x ∧ x ≤ 255) (h4 : Rd w 0 w.heap.size A (bs.map (.int .u8))) :
    Calls Tryz.prog 15 #[.slice A bs.length c] w fun e w' => e = .returned (.pointer (some ⟨w.heap.size, 0, none⟩)) ∧ Rdr w' w.heap.size 0 ∧ w.grownBy w' none := by
  by_cases h : bs.length ≤ 2000
  · have R := Lib.hid (Rdr.new (w := w) (c := c) h h2 h3 h4)
    clear h3 h4
    generalize bs.length = L at *
    go_enter Tryz.func15, Tryz.ntmps15
    go_wp2
    go_ret
    exact ⟨rfl, R.out, gb_alloc (gb_refl _ _) _⟩
  · have R := Rdr.new (w := w) (A := A) (c := c) (bs := bs.take 2000) (by simp; omega) (by simp; omega) (fun x hx => h3 x (List.mem_of_mem_take hx)) (by rw [List.map_take]; exact h4.take 2000)
    rw [show (bs.take 2000).length = 2000 from by simp; omega] at R
    have R := Lib.hid R
    clear h3 h4
    generalize bs.length = L at *
    go_enter Tryz.func15, Tryz.ntmps15
    go_wp2
    go_ret
    exact ⟨rfl, R.out, gb_alloc (gb_refl _ _) _⟩

end Go.Proofs.YtibbpbbgmgdpdaaGreatDoor
