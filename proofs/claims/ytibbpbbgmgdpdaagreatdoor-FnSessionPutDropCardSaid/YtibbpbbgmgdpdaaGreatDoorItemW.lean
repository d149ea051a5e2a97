/- The walks of the tests of vectors, items and stores. -/
import Derived.Test.YtibbpbbgmgdpdaaGreatDoorRows
import Derived.Test.YtibbpbbgmgdpdaaGreatDoorBase
import Derived.Test.YtibbpbbgmgdpdaaGreatDoorShardW
namespace Go.Proofs.YtibbpbbgmgdpdaaGreatDoor
open Go.RowKit
set_option linter.unusedVariables false
set_option maxRecDepth 100000

theorem all_take {α : Type} {p : α → Bool} {l : List α} {k : Nat} (hk : k < l.length) : (l.take (k + 1)).all p = ((l.take k).all p && p l[k]) := by
  rw [List.take_succ_eq_append_getElem hk, List.all_append]
  simp
theorem all_stop {α : Type} {p : α → Bool} {l : List α} {k : Nat} (hk : k < l.length) (h : p l[k] = false) : l.all p = false := by
  rw [List.all_eq_false]
  exact ⟨l[k], List.getElem_mem hk, by simp [h]⟩

theorem isVector_impl (w : World) (A : Option Addr) (c lo hi : Nat) (l : List Int) (hl : l.length ≤ 1073741824) (hr : Rd w lo hi A (l.map (.int .i64))) :
    Calls Tryz.prog 50 #[.slice A l.length c, .int .i64 4] w fun e w' => e = .returned (.bool (M.isVec l)) ∧ w = w' := by
  obtain ⟨L, hL⟩ : ∃ L, L = l.length := ⟨_, rfl⟩
  rw [← hL] at hl ⊢
  have HL := Lib.hid hL
  have HR := Lib.hid hr
  clear hL hr
  go_enter Tryz.func50, Tryz.ntmps50
  go_wp2
  go_loop [9] (fun i => ∃ k : Nat, k ≤ L ∧ i = .int .i64 k ∧ (l.take k).all (fun x => M.inR x (-100) 100) = true) (fun i => L - (intOf i).toNat)
  case atStart => exact ⟨0, Nat.zero_le _, rfl, rfl⟩
  case round =>
    obtain ⟨k, hk, rfl, ha⟩ := hrel
    have HA := Lib.hid ha
    clear ha
    by_cases hlt : k < L
    · have hkl : k < l.length := by rw [← HL.out]; exact hlt
      obtain ⟨b, o, rfl, _, _, hc⟩ := HR.out.at_ (j := k) (u := .int .i64 l[k]) (by simp [hkl])
      have HN := Lib.hid (all_take (p := fun x => M.inR x (-100) 100) hkl)
      have HS := Lib.hid (all_stop (p := fun x => M.inR x (-100) 100) hkl)
      generalize l[k] = x at *
      by_cases h1 : -100 ≤ x
      · by_cases h2 : x ≤ 100
        · have HX := Lib.hid (M.inR_of h1 h2)
          go_wp2
          go_round
          case rel => exact ⟨k + 1, by omega, by go_num, by rw [HN.out, HA.out, HX.out]; rfl⟩
          case measure => simp [intOf]; omega
        · have HX := Lib.hid (M.inR_not (n := x) (lo := -100) (hi := 100) (by omega))
          go_wp2
          go_ret
          exact ⟨ret_bool (by unfold M.isVec; rw [HS.out HX.out]; rfl), rfl⟩
      · have HX := Lib.hid (M.inR_not (n := x) (lo := -100) (hi := 100) (by omega))
        go_wp2
        go_ret
        exact ⟨ret_bool (by unfold M.isVec; rw [HS.out HX.out]; rfl), rfl⟩
    · obtain rfl : k = L := by omega
      have HA' : Hid (l.all (fun x => M.inR x (-100) 100) = true) := Lib.hid (by have := HA.out; rwa [HL.out, List.take_of_length_le (Nat.le_refl _)] at this)
      go_wp2
      go_ret
      refine ⟨ret_bool ?_, rfl⟩
      unfold M.isVec
      rw [HA'.out, ← HL.out, Bool.true_and]
      by_cases h4 : k = 4
      · subst h4; rfl
      · rw [decide_eq_false h4]
        exact beq_eq_false_iff_ne.2 (by omega)

theorem isItem_impl (w : World) (u : Value) (lo hi : Nat) (x : M.Item) (hl : x.pos.length ≤ 1073741824) (hr : RdInts .i64 w lo hi u x.pos) (hhi : hi ≤ w.heap.size) :
    Calls Tryz.prog 52 #[.agg #[.int .i64 x.key, u, .int .i64 x.tags]] w fun e w' => e = .returned (.bool (M.validItem x)) ∧ w.grownBy w' none := by
  obtain ⟨A, c, rfl, hc, hrd⟩ := hr
  obtain ⟨k, l, t⟩ := x
  have HR := Lib.hid (show Rd (w.alloc (.cells #[.int .i64 k, .slice A l.length c, .int .i64 t] 59)) lo hi A (l.map (.int .i64)) from hrd.agree (fun b _ hb => Below.heap_alloc _ _ _ (by omega)))
  have hl' : l.length ≤ 1073741824 := hl
  clear hrd hl
  show Calls Tryz.prog 52 #[.agg #[.int .i64 k, .slice A l.length c, .int .i64 t]] w _
  by_cases h1 : 1 ≤ k
  · by_cases h2 : k ≤ 99
    · have e1 := Lib.hid (M.inR_of h1 h2)
      cases hv : M.isVec l
      · have ev := Lib.hid hv
        go_enter Tryz.func52, Tryz.ntmps52
        go_wp2_with (go_at_call 50; refine (isVector_impl _ A c lo hi l hl' HR.out).mono ?_; rintro e w' ⟨rfl, rfl⟩)
        go_ret
        exact ⟨ret_bool (by unfold M.validItem; rw [e1.out, ev.out]; rfl), gb_alloc (gb_refl _ _) _⟩
      · have ev := Lib.hid hv
        by_cases h3 : 0 ≤ t
        · by_cases h4 : t ≤ 15
          · have e2 := Lib.hid (M.inR_of h3 h4)
            go_enter Tryz.func52, Tryz.ntmps52
            go_wp2_with (go_at_call 50; refine (isVector_impl _ A c lo hi l hl' HR.out).mono ?_; rintro e w' ⟨rfl, rfl⟩)
            go_ret
            exact ⟨ret_bool (by unfold M.validItem; rw [e1.out, ev.out, e2.out]; first | rfl | (simp; omega)), gb_alloc (gb_refl _ _) _⟩
          · have e2 := Lib.hid (M.inR_not (n := t) (lo := 0) (hi := 15) (by omega))
            go_enter Tryz.func52, Tryz.ntmps52
            go_wp2_with (go_at_call 50; refine (isVector_impl _ A c lo hi l hl' HR.out).mono ?_; rintro e w' ⟨rfl, rfl⟩)
            go_ret
            exact ⟨ret_bool (by unfold M.validItem; rw [e1.out, ev.out, e2.out]; first | rfl | (simp; omega)), gb_alloc (gb_refl _ _) _⟩
        · have e2 := Lib.hid (M.inR_not (n := t) (lo := 0) (hi := 15) (by omega))
          go_enter Tryz.func52, Tryz.ntmps52
          go_wp2_with (go_at_call 50; refine (isVector_impl _ A c lo hi l hl' HR.out).mono ?_; rintro e w' ⟨rfl, rfl⟩)
          go_ret
          exact ⟨ret_bool (by unfold M.validItem; rw [e1.out, ev.out, e2.out]; first | rfl | (simp; omega)), gb_alloc (gb_refl _ _) _⟩
    · have e1 := Lib.hid (M.inR_not (n := k) (lo := 1) (hi := 99) (by omega))
      go_enter Tryz.func52, Tryz.ntmps52
      go_wp2_with fail
      go_ret
      exact ⟨ret_bool (by unfold M.validItem; rw [e1.out]; rfl), gb_alloc (gb_refl _ _) _⟩
  · have e1 := Lib.hid (M.inR_not (n := k) (lo := 1) (hi := 99) (by omega))
    go_enter Tryz.func52, Tryz.ntmps52
    go_wp2_with fail
    go_ret
    exact ⟨ret_bool (by unfold M.validItem; rw [e1.out]; rfl), gb_alloc (gb_refl _ _) _⟩

set_option maxHeartbeats 1000000 in
theorem ValidStore_impl (w : World) (A : Option Addr) (c lo hi : Nat) (L : List M.Item) (hl : L.length ≤ 1048576) (hp : ∀ x ∈ L, x.pos.length ≤ 1048576) (hr : RdI w lo hi A L) (hhi : hi ≤ w.heap.size) :
    Calls Tryz.prog 51 #[.slice A L.length c] w fun e w' => e = .returned (.bool (M.validStore L)) ∧ w.grownBy w' none := by
  obtain ⟨n, hn⟩ : ∃ n, n = L.length := ⟨_, rfl⟩
  rw [← hn] at hl ⊢
  have HL := Lib.hid hn
  have HR := Lib.hid hr
  have HP := Lib.hid hp
  clear hn hr hp
  by_cases h16 : n ≤ 16
  · go_enter Tryz.func51, Tryz.ntmps51
    go_wp2
    go_loopw [10] (fun i wr => ∃ k : Nat, k ≤ n ∧ i = .int .i64 k ∧ M.okTo L k = true ∧ w.grownBy wr none) (fun i _ => n - (intOf i).toNat)
    case atStart => exact ⟨0, Nat.zero_le _, rfl, rfl, gb_refl _ _⟩
    case round =>
      obtain ⟨k, hk, rfl, ha, hg⟩ := hrel
      have HA := Lib.hid ha
      have HG := Lib.hid hg
      clear ha hg
      by_cases hlt : k < n
      · have hkl : k < L.length := by rw [← HL.out]; exact hlt
        obtain ⟨b, o, rfl, hb1, hb2, hI⟩ := HR.out.at_ (List.getElem?_eq_getElem hkl)
        have hI2 := hI.agree hb1 hb2 (fun b _ h2 => (Agree.of_grown HG.out) b (Nat.zero_le _) (by omega))
        obtain ⟨u, c0, c1, c2, hu⟩ := hI2
        obtain ⟨Au, cu, rfl, hcu, hru⟩ := hu
        have HN := Lib.hid (M.okTo_succ L k)
        have HS := Lib.hid (fun h => M.okTo_stop (L := L) hkl h)
        have HE := Lib.hid (M.okAt_eq hkl)
        have HXP := Lib.hid (HP.out L[k] (List.getElem_mem hkl))
        have HU := Lib.hid (show RdInts .i64 wr lo hi (.slice Au L[k].pos.length cu) L[k].pos from ⟨_, _, rfl, hcu, hru⟩)
        clear hcu hru hI
        have hcall : ∀ W : World, wr.grownBy W none → Calls Tryz.prog 52 #[.agg #[.int .i64 L[k].key, .slice Au L[k].pos.length cu, .int .i64 L[k].tags]] W fun e w' => e = .returned (.bool (M.validItem L[k])) ∧ W.grownBy w' none := fun W hW =>
          isItem_impl W _ lo hi L[k] (by have := HXP.out; omega) (HU.out.agree (fun b _ h2 => (Agree.of_grown hW) b (Nat.zero_le _) (by have := HG.out.size; omega))) (by have := HG.out.size; have := hW.size; omega)
        cases hv : M.validItem L[k]
        · rw [hv] at hcall
          have HW := Lib.hid hcall
          have HX := Lib.hid (HS.out (by rw [HE.out, hv]; rfl))
          clear hcall hv HE HN HS
          generalize L[k] = y at *
          go_wp2
          refine wp_name (fun W => W.cell? ⟨wr.heap.size, 0, none⟩ = some (.int .i64 y.key) ∧ W.cell? ⟨wr.heap.size, 1, none⟩ = some (.slice Au y.pos.length cu) ∧ W.cell? ⟨wr.heap.size, 2, none⟩ = some (.int .i64 y.tags) ∧ wr.grownBy W none) (by refine ⟨?_, ?_, ?_, gb_alloc (gb_refl _ _) _⟩ <;> (rw [World.cell?_alloc_new]; rfl)) ?_
          rintro W ⟨b0, b1, b2, hgW⟩
          have l0 : ∀ x : Later W, x.w.cell? ⟨wr.heap.size, 0, none⟩ = some (.int .i64 y.key) := fun x => x.cell b0
          have l1 : ∀ x : Later W, x.w.cell? ⟨wr.heap.size, 1, none⟩ = some (.slice Au y.pos.length cu) := fun x => x.cell b1
          have l2 : ∀ x : Later W, x.w.cell? ⟨wr.heap.size, 2, none⟩ = some (.int .i64 y.tags) := fun x => x.cell b2
          have HGW := Lib.hid hgW
          clear b0 b1 b2
          clear hgW
          refine wp_region_later (by kernel_rfl) (by kernel_rfl) ?_
          repeat (go_big_quiet_step ((go_at_call 52; exact later_call (HW.out _ (gb_trans HGW.out (Later.h _))))))
          refine wpQuiet_nil ?_
          rintro _ ⟨x, rfl⟩
          go_wp2
          go_ret
          exact ⟨ret_bool HX.out.symm, gb_trans HG.out (gb_trans HGW.out x.h)⟩
        · rw [hv] at hcall
          have HW := Lib.hid hcall
          rw [hv] at HE
          clear hcall hv
          by_cases hk0 : k = 0
          · have tk : decide (0 < (k : Int)) = false := by simp [hk0]
            have tk' : decide (0 < k) = false := by simp [hk0]
            have HX := Lib.hid (show M.okTo L (k + 1) = true by rw [HN.out, HA.out, HE.out, show (k == 0) = true by simp [hk0]]; rfl)
            clear HE HN HS hk0
            generalize L[k] = y at *
            go_wp2
            refine wp_name (fun W => W.cell? ⟨wr.heap.size, 0, none⟩ = some (.int .i64 y.key) ∧ W.cell? ⟨wr.heap.size, 1, none⟩ = some (.slice Au y.pos.length cu) ∧ W.cell? ⟨wr.heap.size, 2, none⟩ = some (.int .i64 y.tags) ∧ wr.grownBy W none) (by refine ⟨?_, ?_, ?_, gb_alloc (gb_refl _ _) _⟩ <;> (rw [World.cell?_alloc_new]; rfl)) ?_
            rintro W ⟨b0, b1, b2, hgW⟩
            have l0 : ∀ x : Later W, x.w.cell? ⟨wr.heap.size, 0, none⟩ = some (.int .i64 y.key) := fun x => x.cell b0
            have l1 : ∀ x : Later W, x.w.cell? ⟨wr.heap.size, 1, none⟩ = some (.slice Au y.pos.length cu) := fun x => x.cell b1
            have l2 : ∀ x : Later W, x.w.cell? ⟨wr.heap.size, 2, none⟩ = some (.int .i64 y.tags) := fun x => x.cell b2
            have HGW := Lib.hid hgW
            clear b0 b1 b2
            clear hgW
            refine wp_region_later (by kernel_rfl) (by kernel_rfl) ?_
            repeat (go_big_quiet_step ((go_at_call 52; exact later_call (HW.out _ (gb_trans HGW.out (Later.h _))))))
            refine wpQuiet_nil ?_
            rintro _ ⟨x, rfl⟩
            go_wp2
            go_roundw
            case rel => exact ⟨k + 1, by omega, by go_num, HX.out, gb_trans HG.out (gb_trans HGW.out x.h)⟩
            case measure => simp [intOf]; omega
          · have tk : decide (0 < (k : Int)) = true := by simp; omega
            have tk' : decide (0 < k) = true := by simp; omega
            obtain ⟨j, hj⟩ : ∃ j, k = j + 1 := ⟨k - 1, by omega⟩
            have hjl : j < L.length := by omega
            obtain ⟨b', o', he', hb3, hb4, hI'⟩ := HR.out.at_ (List.getElem?_eq_getElem hjl)
            simp only [Option.some.injEq, Addr.mk.injEq, and_true] at he'
            obtain ⟨rfl, rfl⟩ := he'
            have hpz : (L[k - 1]'(by omega)).key = L[j].key := by congr 2; omega
            rw [hpz] at HE
            obtain ⟨uz, z0, z1, z2, hz⟩ := hI'.agree hb1 hb2 (fun b _ h2 => (Agree.of_grown HG.out) b (Nat.zero_le _) (by omega))
            have kj : (k : Int) - 1 = (j : Int) := by omega
            have HJ := Lib.hid hj
            clear hpz hj
            have wj : IntKind.i64.wrap ((k : Int) - 1) = (j : Int) := by rw [kj]; exact IntWalk.i64_in _ (by omega)
            have jn : (j : Int) < n := by omega
            clear z1 z2 hz hI'
            generalize hyz : L[j].key = z at *
            by_cases hlt2 : z < L[k].key
            · have HX := Lib.hid (show M.okTo L (k + 1) = true by rw [HN.out, HA.out, HE.out, decide_eq_true hlt2]; simp)
              clear HE HN HS hyz
              generalize L[k] = y at *
              have td : decide (y.key ≤ z) = false := by simp; omega
              go_wp2
              refine wp_name (fun W => W.cell? ⟨wr.heap.size, 0, none⟩ = some (.int .i64 y.key) ∧ W.cell? ⟨wr.heap.size, 1, none⟩ = some (.slice Au y.pos.length cu) ∧ W.cell? ⟨wr.heap.size, 2, none⟩ = some (.int .i64 y.tags) ∧ wr.grownBy W none) (by refine ⟨?_, ?_, ?_, gb_alloc (gb_refl _ _) _⟩ <;> (rw [World.cell?_alloc_new]; rfl)) ?_
              rintro W ⟨b0, b1, b2, hgW⟩
              have l0 : ∀ x : Later W, x.w.cell? ⟨wr.heap.size, 0, none⟩ = some (.int .i64 y.key) := fun x => x.cell b0
              have l1 : ∀ x : Later W, x.w.cell? ⟨wr.heap.size, 1, none⟩ = some (.slice Au y.pos.length cu) := fun x => x.cell b1
              have l2 : ∀ x : Later W, x.w.cell? ⟨wr.heap.size, 2, none⟩ = some (.int .i64 y.tags) := fun x => x.cell b2
              have HGW := Lib.hid hgW
              clear b0 b1 b2
              have l3 : ∀ x : Later W, x.w.cell? ⟨b, o + j * 3, none⟩ = some (.int .i64 z) := fun x => x.cell (hgW.cell z0 (by simp))
              clear hgW
              refine wp_region_later (by kernel_rfl) (by kernel_rfl) ?_
              repeat (go_big_quiet_step ((go_at_call 52; exact later_call (HW.out _ (gb_trans HGW.out (Later.h _))))))
              refine wpQuiet_nil ?_
              rintro _ ⟨x, rfl⟩
              go_wp2
              go_roundw
              case rel => exact ⟨k + 1, by omega, by go_num, HX.out, gb_trans HG.out (gb_trans HGW.out x.h)⟩
              case measure => simp [intOf]; omega
            · have HX := Lib.hid (HS.out (by rw [HE.out, decide_eq_false hlt2, HJ.out]; rfl))
              clear HE HN HS hyz
              generalize L[k] = y at *
              have td : decide (y.key ≤ z) = true := by simp; omega
              go_wp2
              refine wp_name (fun W => W.cell? ⟨wr.heap.size, 0, none⟩ = some (.int .i64 y.key) ∧ W.cell? ⟨wr.heap.size, 1, none⟩ = some (.slice Au y.pos.length cu) ∧ W.cell? ⟨wr.heap.size, 2, none⟩ = some (.int .i64 y.tags) ∧ wr.grownBy W none) (by refine ⟨?_, ?_, ?_, gb_alloc (gb_refl _ _) _⟩ <;> (rw [World.cell?_alloc_new]; rfl)) ?_
              rintro W ⟨b0, b1, b2, hgW⟩
              have l0 : ∀ x : Later W, x.w.cell? ⟨wr.heap.size, 0, none⟩ = some (.int .i64 y.key) := fun x => x.cell b0
              have l1 : ∀ x : Later W, x.w.cell? ⟨wr.heap.size, 1, none⟩ = some (.slice Au y.pos.length cu) := fun x => x.cell b1
              have l2 : ∀ x : Later W, x.w.cell? ⟨wr.heap.size, 2, none⟩ = some (.int .i64 y.tags) := fun x => x.cell b2
              have HGW := Lib.hid hgW
              clear b0 b1 b2
              have l3 : ∀ x : Later W, x.w.cell? ⟨b, o + j * 3, none⟩ = some (.int .i64 z) := fun x => x.cell (hgW.cell z0 (by simp))
              clear hgW
              refine wp_region_later (by kernel_rfl) (by kernel_rfl) ?_
              repeat (go_big_quiet_step ((go_at_call 52; exact later_call (HW.out _ (gb_trans HGW.out (Later.h _))))))
              refine wpQuiet_nil ?_
              rintro _ ⟨x, rfl⟩
              go_wp2
              go_ret
              exact ⟨ret_bool HX.out.symm, gb_trans HG.out (gb_trans HGW.out x.h)⟩
      · obtain rfl : k = n := by omega
        have HX := Lib.hid (show M.validStore L = true by unfold M.validStore; rw [← HL.out, HA.out, decide_eq_true h16]; rfl)
        go_wp2
        go_ret
        exact ⟨ret_bool HX.out.symm, HG.out⟩
  · have HX := Lib.hid (show M.validStore L = false by unfold M.validStore; rw [← HL.out, decide_eq_false h16, Bool.and_false])
    go_enter Tryz.func51, Tryz.ntmps51
    go_wp2
    go_ret
    exact ⟨ret_bool HX.out.symm, gb_refl _ _⟩

theorem allIn_spec (w : World) (A : Option Addr) (c lo hi : Nat) (l : List Int) (hl : l.length ≤ 1073741824) (hr : Rd w lo hi A (l.map (.int .i64))) :
    Calls Tryz.prog 85 #[.slice A l.length c, .int .i64 (-100), .int .i64 100] w fun e w' => e = .returned (.bool (l.all (fun x => M.inR x (-100) 100))) ∧ w = w' := by
  obtain ⟨L, hL⟩ : ∃ L, L = l.length := ⟨_, rfl⟩
  rw [← hL] at hl ⊢
  have HL := Lib.hid hL
  have HR := Lib.hid hr
  clear hL hr
  go_enter Tryz.func85, Tryz.ntmps85
  go_wp2
  go_loop [7] (fun i => ∃ k : Nat, k ≤ L ∧ i = .int .i64 k ∧ (l.take k).all (fun x => M.inR x (-100) 100) = true) (fun i => L - (intOf i).toNat)
  case atStart => exact ⟨0, Nat.zero_le _, rfl, rfl⟩
  case round =>
    obtain ⟨k, hk, rfl, ha⟩ := hrel
    have HA := Lib.hid ha
    clear ha
    by_cases hlt : k < L
    · have hkl : k < l.length := by rw [← HL.out]; exact hlt
      obtain ⟨b, o, rfl, _, _, hc⟩ := HR.out.at_ (j := k) (u := .int .i64 l[k]) (by simp [hkl])
      have HN := Lib.hid (all_take (p := fun x => M.inR x (-100) 100) hkl)
      have HS := Lib.hid (all_stop (p := fun x => M.inR x (-100) 100) hkl)
      generalize l[k] = x at *
      cases hx : M.inR x (-100) 100
      · have HX := Lib.hid hx
        go_wp2_with (go_at_call 65; refine (inRange_any _ _ _ _).mono ?_; rintro e w' ⟨rfl, rfl⟩)
        go_ret
        exact ⟨ret_bool (HS.out HX.out).symm, rfl⟩
      · have HX := Lib.hid hx
        go_wp2_with (go_at_call 65; refine (inRange_any _ _ _ _).mono ?_; rintro e w' ⟨rfl, rfl⟩)
        go_round
        case rel => exact ⟨k + 1, by omega, by go_num, by rw [HN.out, HA.out, HX.out]; rfl⟩
        case measure => simp [intOf]; omega
    · obtain rfl : k = L := by omega
      have HA' : Hid (l.all (fun x => M.inR x (-100) 100) = true) := Lib.hid (by have := HA.out; rwa [HL.out, List.take_of_length_le (Nat.le_refl _)] at this)
      go_wp2_with fail
      go_ret
      exact ⟨ret_bool HA'.out.symm, rfl⟩

theorem isVector_spec (w : World) (A : Option Addr) (c lo hi : Nat) (l : List Int) (hl : l.length ≤ 1073741824) (hr : Rd w lo hi A (l.map (.int .i64))) :
    Calls Tryz.prog 64 #[.slice A l.length c] w fun e w' => e = .returned (.bool (M.isVec l)) ∧ w = w' := by
  have HR := Lib.hid hr
  clear hr
  by_cases h4 : l.length = 4
  · have t4 : ((l.length : Int) == 4) = true := by rw [h4]; rfl
    have HX := Lib.hid (show M.isVec l = l.all (fun x => M.inR x (-100) 100) by unfold M.isVec; rw [decide_eq_true h4, Bool.and_true])
    have H4 := Lib.hid h4
    clear h4
    go_enter Tryz.func64, Tryz.ntmps64
    go_wp2_with (go_at_call 85; refine (allIn_spec _ A c lo hi l hl HR.out).mono ?_; rintro e w' ⟨rfl, rfl⟩)
    go_ret
    exact ⟨ret_bool HX.out.symm, rfl⟩
  · have t4 : ((l.length : Int) == 4) = false := beq_eq_false_iff_ne.2 (by omega)
    have HX := Lib.hid (show M.isVec l = false by unfold M.isVec; rw [decide_eq_false h4, Bool.and_false])
    go_enter Tryz.func64, Tryz.ntmps64
    go_wp2_with fail
    go_ret
    exact ⟨ret_bool HX.out.symm, rfl⟩

theorem validItem_spec (w : World) (u : Value) (lo hi : Nat) (x : M.Item) (hl : x.pos.length ≤ 1073741824) (hr : RdInts .i64 w lo hi u x.pos) (hhi : hi ≤ w.heap.size) :
    Calls Tryz.prog 81 #[.agg #[.int .i64 x.key, u, .int .i64 x.tags]] w fun e w' => e = .returned (.bool (M.validItem x)) ∧ w.grownBy w' none := by
  obtain ⟨A, c, rfl, hc, hrd⟩ := hr
  obtain ⟨k, l, t⟩ := x
  have HR := Lib.hid (show Rd (w.alloc (.cells #[.int .i64 k, .slice A l.length c, .int .i64 t] 59)) lo hi A (l.map (.int .i64)) from hrd.agree (fun b _ hb => Below.heap_alloc _ _ _ (by omega)))
  have hl' : l.length ≤ 1073741824 := hl
  clear hrd hl
  show Calls Tryz.prog 81 #[.agg #[.int .i64 k, .slice A l.length c, .int .i64 t]] w _
  have HD : Hid (M.validItem ⟨k, l, t⟩ = (M.inR k 1 99 && M.isVec l && M.inR t 0 15)) := Lib.hid rfl
  cases h1 : M.inR k 1 99
  · have e1 := Lib.hid h1
    go_enter Tryz.func81, Tryz.ntmps81
    go_wp2_with (first | (go_at_call 64; refine (isVector_spec _ A c lo hi l hl' HR.out).mono ?_; rintro e w' ⟨rfl, rfl⟩) | (go_at_call 65; refine (inRange_any _ _ _ _).mono ?_; rintro e w' ⟨rfl, rfl⟩))
    go_ret
    exact ⟨ret_bool (by rw [HD.out, e1.out]; rfl), gb_alloc (gb_refl _ _) _⟩
  · cases h2 : M.isVec l
    · have e1 := Lib.hid h1
      have e2 := Lib.hid h2
      go_enter Tryz.func81, Tryz.ntmps81
      go_wp2_with (first | (go_at_call 64; refine (isVector_spec _ A c lo hi l hl' HR.out).mono ?_; rintro e w' ⟨rfl, rfl⟩) | (go_at_call 65; refine (inRange_any _ _ _ _).mono ?_; rintro e w' ⟨rfl, rfl⟩))
      go_ret
      exact ⟨ret_bool (by rw [HD.out, e1.out, e2.out]; rfl), gb_alloc (gb_refl _ _) _⟩
    · have e1 := Lib.hid h1
      have e2 := Lib.hid h2
      go_enter Tryz.func81, Tryz.ntmps81
      go_wp2_with (first | (go_at_call 64; refine (isVector_spec _ A c lo hi l hl' HR.out).mono ?_; rintro e w' ⟨rfl, rfl⟩) | (go_at_call 65; refine (inRange_any _ _ _ _).mono ?_; rintro e w' ⟨rfl, rfl⟩))
      go_ret
      exact ⟨ret_bool (by rw [HD.out, e1.out, e2.out]; rfl), gb_alloc (gb_refl _ _) _⟩

set_option maxHeartbeats 1000000 in
theorem validStore_spec (w : World) (A : Option Addr) (c lo hi : Nat) (L : List M.Item) (hl : L.length ≤ 1048576) (hp : ∀ x ∈ L, x.pos.length ≤ 1048576) (hr : RdI w lo hi A L) (hhi : hi ≤ w.heap.size) :
    Calls Tryz.prog 68 #[.slice A L.length c] w fun e w' => e = .returned (.bool (M.validStore L)) ∧ w.grownBy w' none := by
  obtain ⟨n, hn⟩ : ∃ n, n = L.length := ⟨_, rfl⟩
  rw [← hn] at hl ⊢
  have HL := Lib.hid hn
  have HR := Lib.hid hr
  have HP := Lib.hid hp
  clear hn hr hp
  go_enter Tryz.func68, Tryz.ntmps68
  go_wp2
  go_loopw [3] (fun i wr => ∃ k : Nat, k ≤ n ∧ i = .int .i64 k ∧ M.okTo L k = true ∧ w.grownBy wr none) (fun i _ => n - (intOf i).toNat)
  case atStart => exact ⟨0, Nat.zero_le _, rfl, rfl, gb_refl _ _⟩
  case round =>
    obtain ⟨k, hk, rfl, ha, hg⟩ := hrel
    have HA := Lib.hid ha
    have HG := Lib.hid hg
    clear ha hg
    by_cases hlt : k < n
    · have hkl : k < L.length := by rw [← HL.out]; exact hlt
      obtain ⟨b, o, rfl, hb1, hb2, hI⟩ := HR.out.at_ (List.getElem?_eq_getElem hkl)
      have hI2 := hI.agree hb1 hb2 (fun b _ h2 => (Agree.of_grown HG.out) b (Nat.zero_le _) (by omega))
      obtain ⟨u, c0, c1, c2, hu⟩ := hI2
      obtain ⟨Au, cu, rfl, hcu, hru⟩ := hu
      have HN := Lib.hid (M.okTo_succ L k)
      have HS := Lib.hid (fun h => M.okTo_stop (L := L) hkl h)
      have HE := Lib.hid (M.okAt_eq hkl)
      have HXP := Lib.hid (HP.out L[k] (List.getElem_mem hkl))
      have HU := Lib.hid (show RdInts .i64 wr lo hi (.slice Au L[k].pos.length cu) L[k].pos from ⟨_, _, rfl, hcu, hru⟩)
      clear hcu hru hI
      have kn : (k : Int) < n := by omega
      have k0 : (0 : Int) ≤ k := by omega
      have l0 : ∀ x : Later wr, x.w.cell? ⟨b, o + k * 3, none⟩ = some (.int .i64 L[k].key) := fun x => x.cell c0
      have l1 : ∀ x : Later wr, x.w.cell? ⟨b, o + k * 3 + 1, none⟩ = some (.slice Au L[k].pos.length cu) := fun x => x.cell c1
      have l2 : ∀ x : Later wr, x.w.cell? ⟨b, o + k * 3 + 2, none⟩ = some (.int .i64 L[k].tags) := fun x => x.cell c2
      have hcall : ∀ W : World, wr.grownBy W none → Calls Tryz.prog 81 #[.agg #[.int .i64 L[k].key, .slice Au L[k].pos.length cu, .int .i64 L[k].tags]] W fun e w' => e = .returned (.bool (M.validItem L[k])) ∧ W.grownBy w' none := fun W hW =>
        validItem_spec W _ lo hi L[k] (by have := HXP.out; omega) (HU.out.agree (fun b _ h2 => (Agree.of_grown hW) b (Nat.zero_le _) (by have := HG.out.size; omega))) (by have := HG.out.size; have := hW.size; omega)
      cases hv : M.validItem L[k]
      · rw [hv] at hcall
        have HW := Lib.hid hcall
        have HX := Lib.hid (HS.out (by rw [HE.out, hv]; rfl))
        clear hcall hv HE HN HS
        generalize L[k] = y at *
        go_wp2
        refine wp_region_later (by kernel_rfl) (by kernel_rfl) ?_
        repeat (go_big_quiet_step ((go_at_call 81; exact later_call (HW.out _ (Later.h _)))))
        refine wpQuiet_nil ?_
        rintro _ ⟨x, rfl⟩
        go_wp2
        go_ret
        exact ⟨ret_bool HX.out.symm, gb_trans HG.out x.h⟩
      · rw [hv] at hcall
        have HW := Lib.hid hcall
        rw [hv] at HE
        clear hcall hv
        by_cases hk0 : k = 0
        · have tk : decide (0 < (k : Int)) = false := by simp [hk0]
          have tk' : decide (0 < k) = false := by simp [hk0]
          have HX := Lib.hid (show M.okTo L (k + 1) = true by rw [HN.out, HA.out, HE.out, show (k == 0) = true by simp [hk0]]; rfl)
          clear HE HN HS hk0
          generalize L[k] = y at *
          go_wp2
          refine wp_region_later (by kernel_rfl) (by kernel_rfl) ?_
          repeat (go_big_quiet_step ((go_at_call 81; exact later_call (HW.out _ (Later.h _)))))
          refine wpQuiet_nil ?_
          rintro _ ⟨x, rfl⟩
          go_wp2
          go_roundw
          case rel => exact ⟨k + 1, by omega, by go_num, HX.out, gb_trans HG.out x.h⟩
          case measure => simp [intOf]; omega
        · have tk : decide (0 < (k : Int)) = true := by simp; omega
          have tk' : decide (0 < k) = true := by simp; omega
          obtain ⟨j, hj⟩ : ∃ j, k = j + 1 := ⟨k - 1, by omega⟩
          have hjl : j < L.length := by omega
          obtain ⟨b', o', he', hb3, hb4, hI'⟩ := HR.out.at_ (List.getElem?_eq_getElem hjl)
          simp only [Option.some.injEq, Addr.mk.injEq, and_true] at he'
          obtain ⟨rfl, rfl⟩ := he'
          have hpz : (L[k - 1]'(by omega)).key = L[j].key := by congr 2; omega
          rw [hpz] at HE
          obtain ⟨uz, z0, z1, z2, hz⟩ := hI'.agree hb1 hb2 (fun b _ h2 => (Agree.of_grown HG.out) b (Nat.zero_le _) (by omega))
          have kj : (k : Int) - 1 = (j : Int) := by omega
          have HJ := Lib.hid hj
          clear hpz hj
          have wj : IntKind.i64.wrap ((k : Int) - 1) = (j : Int) := by rw [kj]; exact IntWalk.i64_in _ (by omega)
          have jn : (j : Int) < n := by omega
          have j0 : (0 : Int) ≤ j := by omega
          clear z1 z2 hz hI'
          have l3 : ∀ x : Later wr, x.w.cell? ⟨b, o + j * 3, none⟩ = some (.int .i64 L[j].key) := fun x => x.cell z0
          generalize hyz : L[j].key = z at *
          by_cases hlt2 : z < L[k].key
          · have HX := Lib.hid (show M.okTo L (k + 1) = true by rw [HN.out, HA.out, HE.out, decide_eq_true hlt2]; simp)
            clear HE HN HS hyz
            generalize L[k] = y at *
            have td : decide (y.key ≤ z) = false := by simp; omega
            go_wp2
            refine wp_region_later (by kernel_rfl) (by kernel_rfl) ?_
            repeat (go_big_quiet_step ((go_at_call 81; exact later_call (HW.out _ (Later.h _)))))
            refine wpQuiet_nil ?_
            rintro _ ⟨x, rfl⟩
            go_wp2
            go_roundw
            case rel => exact ⟨k + 1, by omega, by go_num, HX.out, gb_trans HG.out x.h⟩
            case measure => simp [intOf]; omega
          · have HX := Lib.hid (HS.out (by rw [HE.out, decide_eq_false hlt2, HJ.out]; rfl))
            clear HE HN HS hyz
            generalize L[k] = y at *
            have td : decide (y.key ≤ z) = true := by simp; omega
            go_wp2
            refine wp_region_later (by kernel_rfl) (by kernel_rfl) ?_
            repeat (go_big_quiet_step ((go_at_call 81; exact later_call (HW.out _ (Later.h _)))))
            refine wpQuiet_nil ?_
            rintro _ ⟨x, rfl⟩
            go_wp2
            go_ret
            exact ⟨ret_bool HX.out.symm, gb_trans HG.out x.h⟩
    · obtain rfl : k = n := by omega
      have HX := Lib.hid (show M.validStore L = decide (k ≤ 16) by unfold M.validStore; rw [← HL.out, HA.out, Bool.true_and])
      go_wp2
      go_ret
      refine ⟨ret_bool ?_, HG.out⟩
      rw [HX.out]
      by_cases h16 : k ≤ 16
      · rw [decide_eq_true h16]; exact decide_eq_true (by omega)
      · rw [decide_eq_false h16]; exact decide_eq_false (by omega)

end Go.Proofs.YtibbpbbgmgdpdaaGreatDoor
