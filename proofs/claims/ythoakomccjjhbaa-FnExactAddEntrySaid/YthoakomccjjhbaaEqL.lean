/- The walks of the laws' comparisons of items. -/
import Derived.Test.YthoakomccjjhbaaSee
namespace Go.Proofs.Ythoakomccjjhbaa
open Go.RowKit
set_option linter.unusedVariables false
set_option maxRecDepth 100000

def eqItemB (x y : M.Item) : Bool := x.key == y.key && x.tags == y.tags && decide (x.pos = y.pos)
theorem eqItemB_self (x : M.Item) : eqItemB x x = true := by simp [eqItemB]
theorem eqItemB_iff {x y : M.Item} : eqItemB x y = true ↔ x = y := by
  obtain ⟨a, b, c⟩ := x
  obtain ⟨d, e, f⟩ := y
  simp [eqItemB]
  exact ⟨fun ⟨⟨a, b⟩, c⟩ => ⟨a, c, b⟩, fun ⟨a, b, c⟩ => ⟨⟨a, c⟩, b⟩⟩

set_option maxHeartbeats 600000 in
theorem equalItem_any (w : World) (u v : Value) (lo hi lo' hi' : Nat) (x y : M.Item) (hl : x.pos.length ≤ 1048576) (hr : RdInts .i64 w lo hi u x.pos) (hs : RdInts .i64 w lo' hi' v y.pos) (h1 : hi ≤ w.heap.size) (h2 : hi' ≤ w.heap.size) :
    Calls Try.prog 18 #[.agg #[.int .i64 x.key, u, .int .i64 x.tags], .agg #[.int .i64 y.key, v, .int .i64 y.tags]] w fun e w' => e = .returned (.bool (eqItemB x y)) ∧ w.grownBy w' none := by
  obtain ⟨A, c, rfl, hc, hrd⟩ := hr
  obtain ⟨B, d, rfl, hd, hsd⟩ := hs
  obtain ⟨k, l, t⟩ := x
  obtain ⟨k', m, t'⟩ := y
  have HR := Lib.hid hrd
  have HS := Lib.hid hsd
  have hl' : l.length ≤ 1048576 := hl
  have HC : Hid (∀ W : World, w.grownBy W none → Calls Try.prog 42 #[.slice A l.length c, .slice B m.length d] W fun e w' => e = .returned (.bool (decide (l = m))) ∧ ∃ n, w' = W.drewN n) := Lib.hid fun W hW =>
    equalInts_any W A B c d l m lo hi lo' hi' (by omega) (HR.out.agree (fun b _ h => (Agree.of_grown hW) b (Nat.zero_le _) (by omega))) (HS.out.agree (fun b _ h => (Agree.of_grown hW) b (Nat.zero_le _) (by omega)))
  clear hrd hsd hl
  show Calls Try.prog 18 #[.agg #[.int .i64 k, .slice A l.length c, .int .i64 t], .agg #[.int .i64 k', .slice B m.length d, .int .i64 t']] w fun e w' => e = .returned (.bool (k == k' && t == t' && decide (l = m))) ∧ w.grownBy w' none
  have G2 := Lib.hid (gb_alloc (gb_alloc (gb_refl w none) (.cells #[.int .i64 k, .slice A l.length c, .int .i64 t] 28)) (.cells #[.int .i64 k', .slice B m.length d, .int .i64 t'] 28))
  by_cases hk : k = k'
  · subst hk
    have tk : (k == k) = true := by simp
    by_cases ht : t = t'
    · subst ht
      have tt : (t == t) = true := by simp
      go_enter Try.func18, Try.ntmps18
      go_wp2_with (go_at_call 42; refine (HC.out _ G2.out).mono ?_; rintro e w' ⟨rfl, q, rfl⟩)
      go_ret
      exact ⟨ret_bool (by simp), gb_drewN G2.out q⟩
    · have tt : (t == t') = false := beq_eq_false_iff_ne.2 ht
      have HT := Lib.hid tt
      go_enter Try.func18, Try.ntmps18
      go_wp2_with fail
      go_ret
      exact ⟨rfl, G2.out⟩
  · have tk : (k == k') = false := beq_eq_false_iff_ne.2 hk
    have HT := Lib.hid tk
    go_enter Try.func18, Try.ntmps18
    go_wp2_with fail
    go_ret
    exact ⟨rfl, G2.out⟩

set_option maxHeartbeats 600000 in
theorem equalItems_same (w : World) (A B : Option Addr) (c d lo hi lo' hi' : Nat) (L : List M.Item) (hl : L.length ≤ 1048576) (hp : ∀ x ∈ L, x.pos.length ≤ 1048576) (hr : RdI w lo hi A L) (hs : RdI w lo' hi' B L) (h1 : hi ≤ w.heap.size) (h2 : hi' ≤ w.heap.size) :
    Calls Try.prog 17 #[.slice A L.length c, .slice B L.length d] w fun e w' => e = .returned (.bool true) ∧ w.grownBy w' none := by
  obtain ⟨n, hn⟩ : ∃ n, n = L.length := ⟨_, rfl⟩
  rw [← hn] at hl ⊢
  have HL := Lib.hid hn
  have HR := Lib.hid hr
  have HS := Lib.hid hs
  have HP := Lib.hid hp
  have t0 : ((n : Int) != n) = false := by simp
  clear hn hr hs hp
  go_enter Try.func17, Try.ntmps17
  go_wp2_with fail
  go_loopw [5] (fun i wr => ∃ k : Nat, k ≤ n ∧ i = .int .i64 k ∧ w.grownBy wr none) (fun i _ => n - (intOf i).toNat)
  case atStart => exact ⟨0, Nat.zero_le _, rfl, gb_refl _ _⟩
  case round =>
    obtain ⟨k, hk, rfl, hg⟩ := hrel
    have HG := Lib.hid hg
    clear hg
    by_cases hlt : k < n
    · have hkl : k < L.length := by rw [← HL.out]; exact hlt
      obtain ⟨b, o, rfl, hb1, hb2, hI⟩ := HR.out.at_ (List.getElem?_eq_getElem hkl)
      obtain ⟨b', o', rfl, hb3, hb4, hJ⟩ := HS.out.at_ (List.getElem?_eq_getElem hkl)
      obtain ⟨u, c0, c1, c2, hu⟩ := hI.agree hb1 hb2 (fun b _ h => (Agree.of_grown HG.out) b (Nat.zero_le _) (by omega))
      obtain ⟨v, d0, d1, d2, hv⟩ := hJ.agree hb3 hb4 (fun b _ h => (Agree.of_grown HG.out) b (Nat.zero_le _) (by omega))
      obtain ⟨Au, cu, rfl, hcu, hru⟩ := hu
      obtain ⟨Av, cv, rfl, hcv, hrv⟩ := hv
      have hpl : L[k].pos.length ≤ 1048576 := HP.out _ (List.getElem_mem hkl)
      have HU := Lib.hid hru
      have HV := Lib.hid hrv
      clear hI hJ hcu hru hcv hrv
      generalize L[k] = y at *
      have l0 : ∀ x : Later wr, x.w.cell? ⟨b, o + k * 3, none⟩ = some (.int .i64 y.key) := fun x => x.cell c0
      have l1 : ∀ x : Later wr, x.w.cell? ⟨b, o + k * 3 + 1, none⟩ = some (.slice Au y.pos.length cu) := fun x => x.cell c1
      have l2 : ∀ x : Later wr, x.w.cell? ⟨b, o + k * 3 + 2, none⟩ = some (.int .i64 y.tags) := fun x => x.cell c2
      have m0 : ∀ x : Later wr, x.w.cell? ⟨b', o' + k * 3, none⟩ = some (.int .i64 y.key) := fun x => x.cell d0
      have m1 : ∀ x : Later wr, x.w.cell? ⟨b', o' + k * 3 + 1, none⟩ = some (.slice Av y.pos.length cv) := fun x => x.cell d1
      have m2 : ∀ x : Later wr, x.w.cell? ⟨b', o' + k * 3 + 2, none⟩ = some (.int .i64 y.tags) := fun x => x.cell d2
      have HC : Hid (∀ W : World, wr.grownBy W none → Calls Try.prog 42 #[.slice Au y.pos.length cu, .slice Av y.pos.length cv] W fun e w' => e = .returned (.bool true) ∧ W.grownBy w' none) := Lib.hid fun W hW => by
        have h := equalInts_any W _ _ cu cv _ _ lo hi lo' hi' (by omega) (HU.out.agree (fun b _ h => (Agree.of_grown hW) b (Nat.zero_le _) (by have := HG.out.size; omega))) (HV.out.agree (fun b _ h => (Agree.of_grown hW) b (Nat.zero_le _) (by have := HG.out.size; omega)))
        exact h.mono fun _ _ ⟨he, hq⟩ => ⟨by rw [he]; simp, gb_of_drewN hq⟩
      have kn : (k : Int) < n := by omega
      have k0 : (0 : Int) ≤ k := by omega
      have e0 : (y.key != y.key) = false := by simp
      have e2 : (y.tags != y.tags) = false := by simp
      clear c0 c1 c2 d0 d1 d2
      go_wp2_with fail
      refine wp_region_later (by kernel_rfl) (by kernel_rfl) ?_
      repeat (go_big_quiet_step ((go_at_call 42; exact later_call (HC.out _ (Later.h _)))))
      refine wpQuiet_nil ?_
      rintro _ ⟨x, rfl⟩
      go_wp2_with fail
      go_roundw
      case rel => exact ⟨k + 1, by omega, by go_num, gb_trans HG.out x.h⟩
      case measure => simp [intOf]; omega
    · obtain rfl : k = n := by omega
      go_wp2_with fail
      go_ret
      exact ⟨rfl, HG.out⟩
theorem eqi_same {w : World} {A B : Option Addr} {c d : Nat} {L : List M.Item} (D : SeesI w A L) (E : SeesI w B L) : Calls Try.prog 17 #[.slice A L.length c, .slice B L.length d] w fun e w' => e = .returned (.bool true) ∧ w.grownBy w' none :=
  equalItems_same w A B c d 0 w.heap.size 0 w.heap.size L D.2.1 D.2.2 D.1 E.1 (Nat.le_refl _) (Nat.le_refl _)


end Go.Proofs.Ythoakomccjjhbaa
