/- The program's test of hits. -/
import Derived.Test.YtamaoljjoghajaaVecQ
namespace Go.Proofs.Ytamaoljjoghajaa
open Go.RowKit Go.Sort
set_option linter.unusedVariables false
set_option linter.unusedSimpArgs false
set_option maxRecDepth 100000
theorem areHits1_any {w : World} {g : Nat} {x : M.Hit} {k : Int} (hg : w.cell? ⟨g, 0, none⟩ = some (.int .i64 k)) (hne : x.key ≠ k) :
    Calls Try.prog 102 #[.agg #[.int .i64 x.key, .int .i64 x.dist], .pointer (some ⟨g, 0, none⟩)] w fun e w' => e = .returned (.bool false) ∧ w.grownBy w' none := by
  have t1 : (x.key == k) = false := beq_eq_false_iff_ne.2 hne
  have HG := Lib.hid hg
  clear hg hne
  have c1 : (w.alloc (.cells #[.int .i64 x.key, .int .i64 x.dist] 45)).cell? ⟨g, 0, none⟩ = some (.int .i64 k) := (World.grownBy_alloc w _ none).cell HG.out (by simp)
  go_enter Try.func102, Try.ntmps102
  go_wp2_with fail
  go_ret
  exact ⟨rfl, gb_alloc (gb_refl _ _) _⟩
set_option maxHeartbeats 1000000 in
theorem indexHit_any {w : World} {A : Option Addr} {c g : Nat} {l : List M.Hit} {k : Int} (D : SeesX w A l) (hg : w.cell? ⟨g, 0, none⟩ = some (.int .i64 k)) (hne : ∀ x ∈ l, x.key ≠ k) :
    Calls Try.prog 112 #[.slice A l.length c, .func (.func 102) #[] #[.pointer (some ⟨g, 0, none⟩)]] w fun e w' => e = .returned (.int .i64 (-1)) ∧ w.grownBy w' none := by
  have hl := D.2
  obtain ⟨n, hn⟩ : ∃ n, n = l.length := ⟨_, rfl⟩
  rw [← hn] at hl ⊢
  have HL := Lib.hid hn
  have HD := Lib.hid D
  have HC := Lib.hid hg
  have HNE := Lib.hid hne
  clear hn D hg hne
  go_enter Try.func112, Try.ntmps112
  go_wp2_with fail
  go_loopw [8] (fun i wr => ∃ j : Nat, j ≤ n ∧ i = .int .i64 j ∧ w.grownBy wr none) (fun i _ => n - (intOf i).toNat)
  case atStart => exact ⟨0, Nat.zero_le _, rfl, gb_refl _ _⟩
  case round =>
    obtain ⟨j, hj, rfl, hg⟩ := hrel
    have HG := Lib.hid hg
    clear hg
    by_cases hlt : j < n
    · have hjl : j < l.length := by rw [← HL.out]; exact hlt
      obtain ⟨b, o, rfl, hb1, hb2, c0, c1⟩ := (HD.out.on HG.out).1.hit (List.getElem?_eq_getElem hjl)
      have HI := Lib.hid (areHits1_any (HG.out.cell HC.out (by simp)) (HNE.out _ (List.getElem_mem hjl)))
      generalize l[j] = y at *
      go_wp2_with fail
      refine HI.out.mono ?_
      rintro e w' ⟨rfl, hg⟩
      have G := Lib.hid (gb_trans HG.out hg)
      clear hg HI
      go_wp2_with fail
      go_roundw
      case rel => exact ⟨j + 1, by omega, by go_num, G.out⟩
      case measure => simp [intOf]; omega
    · obtain rfl : j = n := by omega
      go_wp2_with fail
      go_ret
      exact ⟨rfl, HG.out⟩
theorem containsHit_any {w : World} {A : Option Addr} {c g : Nat} {l : List M.Hit} {k : Int} (D : SeesX w A l) (hg : w.cell? ⟨g, 0, none⟩ = some (.int .i64 k)) (hne : ∀ x ∈ l, x.key ≠ k) :
    Calls Try.prog 82 #[.slice A l.length c, .func (.func 102) #[] #[.pointer (some ⟨g, 0, none⟩)]] w fun e w' => e = .returned (.bool false) ∧ w.grownBy w' none := by
  have HI := Lib.hid (indexHit_any (c := c) D hg hne)
  generalize l.length = n at *
  clear D hg hne
  go_enter Try.func82, Try.ntmps82
  go_wp2_with fail
  refine HI.out.mono ?_
  rintro e w' ⟨rfl, hg⟩
  have G := Lib.hid hg
  clear hg HI
  go_wp2_with fail
  go_ret
  exact ⟨rfl, G.out⟩
theorem SeesX.takeP {w : World} {A : Option Addr} {l p : List M.Hit} (h : SeesX w A l) (e : l.take p.length = p) : SeesX w A p := by
  refine ⟨?_, ?_⟩
  · have := h.1.take (p.length * 2)
    rwa [cellsX_take, e] at this
  · have := h.2
    have h9 : p.length ≤ l.length := by rw [← e, List.length_take]; omega
    omega
set_option maxHeartbeats 2000000 in
theorem areHits_impl {w : World} {A : Option Addr} {c : Nat} {l : List M.Hit} (D : SeesX w A l) (hlc : l.length ≤ c) (hok : OkHits l) :
    Calls Try.prog 69 #[.slice A l.length c] w fun e w' => e = .returned (.bool true) ∧ w.grownBy w' none := by
  have hl := hok.2.2.2
  obtain ⟨n, hn⟩ : ∃ n, n = l.length := ⟨_, rfl⟩
  rw [← hn] at hl hlc ⊢
  have HL := Lib.hid hn
  have HD := Lib.hid D
  have HOK := Lib.hid hok
  have hl' : ¬ (n : Int) > 16 := by omega
  clear hn D hok
  go_enter Try.func69, Try.ntmps69
  go_wp2_with fail
  go_loopw [10] (fun i wr => ∃ j : Nat, j ≤ n ∧ i = .int .i64 j ∧ w.grownBy wr none) (fun i _ => n - (intOf i).toNat)
  case atStart => exact ⟨0, Nat.zero_le _, rfl, gb_refl _ _⟩
  case round =>
    obtain ⟨j, hj, rfl, hg⟩ := hrel
    have HG := Lib.hid hg
    clear hg
    by_cases hlt : j < n
    · have hjl : j < l.length := by rw [← HL.out]; exact hlt
      obtain ⟨b, o, rfl, hb1, hb2, c0, c1⟩ := (HD.out.on HG.out).1.hit (List.getElem?_eq_getElem hjl)
      have hkr := HOK.out.2.2.1 _ (List.getElem_mem hjl)
      have HN1 : Hid (∀ p (hp : p < l.length), p + 1 = j → M.hlt l[p] l[j] = true) := Lib.hid fun p hp hpj => (HOK.out.near hp hjl (by omega)).1
      have HCT : Hid (∀ W, wr.grownBy W none → ∀ q, q = j → W.cell? ⟨wr.heap.size, 0, none⟩ = some (.int .i64 l[j].key) → Calls Try.prog 82 #[.slice (some ⟨b, o, none⟩) q c, .func (.func 102) #[] #[.pointer (some ⟨wr.heap.size, 0, none⟩)]] W fun e w' => e = .returned (.bool false) ∧ W.grownBy w' none) := Lib.hid fun W hW q hq hc => by
        have e := containsHit_any (c := c) (l := l.take j) (k := l[j].key) (g := wr.heap.size) (w := W) (A := some ⟨b, o, none⟩) ((HD.out.on (gb_trans HG.out hW)).takeP (p := l.take j) (by rw [List.length_take, Nat.min_eq_left (by omega)])) hc (fun x hx => by
          obtain ⟨i, hi, rfl⟩ := List.getElem_of_mem hx
          rw [List.length_take] at hi
          rw [List.getElem_take]
          exact (HOK.out.near (by omega) hjl (by omega)).2)
        rw [List.length_take, Nat.min_eq_left (by omega)] at e
        rw [hq]
        exact e
      have r1 := hkr.1.1
      have r2 := hkr.1.2
      have r3 := hkr.2.1
      have r4 := hkr.2.2
      clear hkr
      have kn : (j : Int) < n := by omega
      have k0 : (0 : Int) ≤ j := by omega
      have kc : (j : Int) ≤ c := by omega
      by_cases hj0 : j = 0
      · generalize l[j] = y at *
        have hj1 : ¬ ((j : Int) > 0) := by omega
        have hj2 : decide (0 < j) = false := by simp; omega
        have hj3 : ¬ 0 < j := by omega
        clear hj0
        go_wp2_with fail
        refine wp_name (fun W => W.cell? ⟨wr.heap.size, 0, none⟩ = some (.int .i64 y.key) ∧ W.cell? ⟨wr.heap.size, 1, none⟩ = some (.int .i64 y.dist) ∧ wr.grownBy W none) ⟨two_cell_at rfl 0 _ rfl, two_cell_at rfl 1 _ rfl, World.grownBy_alloc wr _ none⟩ ?_
        rintro W ⟨b0, b1, hgw⟩
        have HGW := Lib.hid hgw
        have B0 := Lib.hid b0
        clear hgw
        have l0 : ∀ x : Later W, x.w.cell? ⟨wr.heap.size, 0, none⟩ = some (.int .i64 y.key) := fun x => x.cell b0
        have l1 : ∀ x : Later W, x.w.cell? ⟨wr.heap.size, 1, none⟩ = some (.int .i64 y.dist) := fun x => x.cell b1
        clear b0 b1 c0 c1
        have u1 : decide (y.key < 1) = false := decide_eq_false (by omega)
        have u2' : decide (y.key > 99) = false := decide_eq_false (by omega)
        have u3' : decide (y.dist < 0) = false := decide_eq_false (by omega)
        have u4' : decide (y.dist > 1000000) = false := decide_eq_false (by omega)
        have u2'' : decide (99 < y.key) = false := decide_eq_false (by omega)
        have u4'' : decide (1000000 < y.dist) = false := decide_eq_false (by omega)
        refine wp_region_later (by kernel_rfl) (by kernel_rfl) ?_
        repeat (go_big_quiet_step ((fail)))
        refine wpQuiet_nil ?_
        rintro _ ⟨x, rfl⟩
        clear l0 l1
        go_wp2_with fail
        refine (HCT.out x.w (gb_trans HGW.out x.h) _ rfl (x.cell B0.out)).mono ?_
        rintro e w9 ⟨rfl, hg⟩
        have G9 := Lib.hid (gb_trans (gb_trans HG.out (gb_trans HGW.out x.h)) hg)
        clear hg
        go_wp2_with fail
        go_roundw
        case rel => exact ⟨j + 1, by omega, by go_num, G9.out⟩
        case measure => simp [intOf]; omega
      · obtain ⟨j', rfl⟩ : ∃ j', j = j' + 1 := ⟨j - 1, by omega⟩
        have hpl : j' < l.length := by rw [← HL.out]; omega
        obtain ⟨b', o', e', _, _, d0, d1⟩ := (HD.out.on HG.out).1.hit (List.getElem?_eq_getElem hpl)
        injection e' with e'
        injection e' with e1 e2 e3
        subst e1 e2
        have HNB := Lib.hid (HN1.out j' hpl rfl)
        generalize l[j'] = z at *
        generalize l[j' + 1] = y at *
        obtain ⟨q, hq⟩ : ∃ q, q = hitCmp y z := ⟨_, rfl⟩
        have hq0 : ¬ q ≤ 0 := by
          have h := HNB.out
          rw [M.hlt_iff] at h
          rw [hq]
          unfold hitCmp orI cmpI
          repeat' split
          all_goals omega
        have HB : Hid (∀ W, Calls Try.prog 81 #[.agg #[.int .i64 y.key, .int .i64 y.dist], .agg #[.int .i64 z.key, .int .i64 z.dist]] W fun e w' => e = .returned (.int .i64 q) ∧ W.grownBy w' none) := Lib.hid fun W => by
          rw [hq]; exact (compareHits_any y z W).mono fun _ _ ⟨he, hg⟩ => ⟨he, hg.1⟩
        have kz : IntKind.i64.wrap ((j' : Int) + 1 - 1) = j' := by rw [Int.add_sub_cancel]; exact IntWalk.i64_in _ (by omega)
        have kp : (j' : Int) < n := by omega
        have kp0 : (0 : Int) ≤ j' := by omega
        clear hj0 hq
        go_wp2_with fail
        refine wp_name (fun W => W.cell? ⟨wr.heap.size, 0, none⟩ = some (.int .i64 y.key) ∧ W.cell? ⟨wr.heap.size, 1, none⟩ = some (.int .i64 y.dist) ∧ wr.grownBy W none) ⟨two_cell_at rfl 0 _ rfl, two_cell_at rfl 1 _ rfl, World.grownBy_alloc wr _ none⟩ ?_
        rintro W ⟨b0, b1, hgw⟩
        have HGW := Lib.hid hgw
        have B0 := Lib.hid b0
        have l0 : ∀ x : Later W, x.w.cell? ⟨wr.heap.size, 0, none⟩ = some (.int .i64 y.key) := fun x => x.cell b0
        have l1 : ∀ x : Later W, x.w.cell? ⟨wr.heap.size, 1, none⟩ = some (.int .i64 y.dist) := fun x => x.cell b1
        have l2 : ∀ x : Later W, x.w.cell? ⟨b, o + j' * 2, none⟩ = some (.int .i64 z.key) := fun x => x.cell (hgw.cell d0 (by simp))
        have l3 : ∀ x : Later W, x.w.cell? ⟨b, o + j' * 2 + 1, none⟩ = some (.int .i64 z.dist) := fun x => x.cell (hgw.cell d1 (by simp))
        clear b0 b1 c0 c1 d0 d1 hgw
        have u1 : decide (y.key < 1) = false := decide_eq_false (by omega)
        have u2' : decide (y.key > 99) = false := decide_eq_false (by omega)
        have u3' : decide (y.dist < 0) = false := decide_eq_false (by omega)
        have u4' : decide (y.dist > 1000000) = false := decide_eq_false (by omega)
        have u2'' : decide (99 < y.key) = false := decide_eq_false (by omega)
        have u4'' : decide (1000000 < y.dist) = false := decide_eq_false (by omega)
        have u5' : decide (((j' : Int) + 1) > 0) = true := decide_eq_true (by omega)
        have u6' : decide (0 < (j' : Int) + 1) = true := decide_eq_true (by omega)
        have u7' : decide (q ≤ 0) = false := decide_eq_false (by omega)
        refine wp_region_later (by kernel_rfl) (by kernel_rfl) ?_
        repeat (go_big_quiet_step ((first | (go_at_call 81; exact later_call (HB.out _)))))
        refine wpQuiet_nil ?_
        rintro _ ⟨x, rfl⟩
        clear l0 l1 l2 l3
        go_wp2_with fail
        refine (HCT.out x.w (gb_trans HGW.out x.h) _ rfl (x.cell B0.out)).mono ?_
        rintro e w9 ⟨rfl, hg⟩
        have G9 := Lib.hid (gb_trans (gb_trans HG.out (gb_trans HGW.out x.h)) hg)
        clear hg
        go_wp2_with fail
        go_roundw
        case rel => exact ⟨j' + 1 + 1, by omega, by go_num, G9.out⟩
        case measure => simp [intOf]; omega
    · obtain rfl : j = n := by omega
      go_wp2_with fail
      go_ret
      exact ⟨rfl, HG.out⟩
theorem ValidHits_impl {w : World} {A : Option Addr} {c : Nat} {l : List M.Hit} (D : SeesX w A l) (hlc : l.length ≤ c) (hok : OkHits l) :
    Calls Try.prog 32 #[.slice A l.length c] w fun e w' => e = .returned (.bool true) ∧ w.grownBy w' none := by
  have HI := Lib.hid (areHits_impl D hlc hok)
  generalize l.length = n at *
  clear D hlc hok
  go_enter Try.func32, Try.ntmps32
  go_wp2_with fail
  refine HI.out.mono ?_
  rintro e w' ⟨rfl, hg⟩
  have G := Lib.hid hg
  clear hg HI
  go_wp2_with fail
  go_ret
  exact ⟨rfl, G.out⟩
end Go.Proofs.Ytamaoljjoghajaa
