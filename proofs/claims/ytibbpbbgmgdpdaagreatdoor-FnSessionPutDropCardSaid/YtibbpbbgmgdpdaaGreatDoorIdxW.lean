/- The walks of look-ups of keys and comparisons of items. -/
import Derived.Test.YtibbpbbgmgdpdaaGreatDoorSee
import Derived.Test.YtibbpbbgmgdpdaaGreatDoorEntW
import Derived.Test.YtibbpbbgmgdpdaaGreatDoorPure
namespace Go.Proofs.YtibbpbbgmgdpdaaGreatDoor
open Go.RowKit
set_option linter.unusedVariables false
set_option maxRecDepth 100000

/-- the place of the first item that passes -/
def idxI (L : List M.Item) (p : M.Item → Bool) : Int := match L.findIdx? p with | some i => (i : Int) | none => -1
theorem idxI_none {L : List M.Item} {p : M.Item → Bool} (h : ∀ x ∈ L, p x = false) : idxI L p = -1 := by
  unfold idxI
  rw [List.findIdx?_eq_none_iff.2 (fun x hx => h x hx)]
theorem idxI_some {L : List M.Item} {p : M.Item → Bool} {k : Nat} (hk : k < L.length) (h : ∀ x ∈ L.take k, p x = false) (hp : p L[k] = true) : idxI L p = (k : Int) := by
  unfold idxI
  have : L.findIdx? p = some k := by
    rw [List.findIdx?_eq_some_iff_getElem]
    refine ⟨hk, hp, fun j hj => ?_⟩
    have hm : L[j] ∈ L.take k := by
      rw [List.mem_take_iff_getElem]
      exact ⟨j, by omega, rfl⟩
    simp [h _ hm]
  rw [this]
set_option maxHeartbeats 1000000 in
theorem indexFuncI_key {w : World} {A : Option Addr} {c : Nat} {L : List M.Item} {p : M.Item → Bool} {q : Value} (D : SeesI w A L)
    (ht : ∀ W, w.grownBy W none → ∀ x ∈ L, ∀ u, RdInts .i64 W 0 W.heap.size u x.pos → Calls Tryz.prog 75 #[.agg #[.int .i64 x.key, u, .int .i64 x.tags], q] W fun e w' => e = .returned (.bool (p x)) ∧ W.grownBy w' none) :
    Calls Tryz.prog 74 #[.slice A L.length c, .func (.func 75) #[] #[q]] w fun e w' => e = .returned (.int .i64 (idxI L p)) ∧ w.grownBy w' none := by
  have hl := D.2.1
  obtain ⟨n, hn⟩ : ∃ n, n = L.length := ⟨_, rfl⟩
  rw [← hn] at hl ⊢
  have HL := Lib.hid hn
  have HT := Lib.hid ht
  have HD := Lib.hid D
  clear hn ht D
  go_enter Tryz.func74, Tryz.ntmps74
  go_wp2_with fail
  go_loopw [8] (fun i wr => ∃ k : Nat, k ≤ n ∧ i = .int .i64 k ∧ (∀ x ∈ L.take k, p x = false) ∧ w.grownBy wr none) (fun i _ => n - (intOf i).toNat)
  case atStart => exact ⟨0, Nat.zero_le _, rfl, by simp, gb_refl _ _⟩
  case round =>
    obtain ⟨k, hk, rfl, ha, hg⟩ := hrel
    have HA := Lib.hid ha
    have HG := Lib.hid hg
    clear ha hg
    by_cases hlt : k < n
    · have hkl : k < L.length := by rw [← HL.out]; exact hlt
      obtain ⟨b, o, rfl, hb1, hb2, hI⟩ := HD.out.1.at_ (List.getElem?_eq_getElem hkl)
      obtain ⟨u, c0, c1, c2, hu⟩ := hI.agree hb1 hb2 (Agree.of_grown HG.out)
      have HC := Lib.hid (HT.out wr HG.out L[k] (List.getElem_mem hkl) u (hu.wide (Nat.le_refl _) HG.out.size))
      have HS := Lib.hid (fun h => all_snoc_false (p := p) hkl HA.out h)
      have HF := Lib.hid (fun h => idxI_some (p := p) hkl HA.out h)
      obtain ⟨Au, cu, rfl, hcu, hru⟩ := hu
      clear hI hcu hru
      generalize L[k] = y at *
      go_wp2_with fail
      refine HC.out.mono ?_
      rintro e w1 ⟨rfl, hg⟩
      have G1 := Lib.hid (gb_trans HG.out hg)
      clear hg
      cases hp : p y
      · have HP := Lib.hid (HS.out hp)
        clear hp
        go_wp2_with fail
        go_roundw
        case rel => exact ⟨k + 1, by omega, by go_num, HP.out, G1.out⟩
        case measure => simp [intOf]; omega
      · have HP := Lib.hid (HF.out hp)
        clear hp
        go_wp2_with fail
        go_ret
        exact ⟨ret_int HP.out.symm, G1.out⟩
    · obtain rfl : k = n := by omega
      have HN := Lib.hid (idxI_none (L := L) (p := p) (by have := HA.out; rwa [HL.out, List.take_of_length_le (Nat.le_refl _)] at this))
      go_wp2_with fail
      go_ret
      exact ⟨ret_int HN.out.symm, HG.out⟩
theorem idxI_key (L : List M.Item) (k : Int) : idxI L (fun x => x.key == k) = M.keyAt L k := by
  unfold idxI M.keyAt
  have : (fun x : M.Item => x.key == k) = fun x => decide (x.key = k) := by funext x; rw [Bool.eq_iff_iff]; simp
  rw [this]
  cases L.findIdx? (fun x => decide (x.key = k)) <;> rfl
theorem indexOf1_any (w : World) (g : Nat) (u : Value) (k : Int) (x : M.Item) (hr : RdInts .i64 w 0 w.heap.size u x.pos) (hg : w.cell? ⟨g, 0, none⟩ = some (.int .i64 k)) :
    Calls Tryz.prog 75 #[.agg #[.int .i64 x.key, u, .int .i64 x.tags], .pointer (some ⟨g, 0, none⟩)] w fun r w' => r = .returned (.bool (x.key == k)) ∧ w.grownBy w' none := by
  obtain ⟨A, c, rfl, _, _⟩ := hr
  have hg' : (w.alloc (.cells #[.int .i64 x.key, .slice A x.pos.length c, .int .i64 x.tags] 59)).cell? ⟨g, 0, none⟩ = some (.int .i64 k) := (World.grownBy_alloc w _ none).cell hg (by simp)
  go_enter Tryz.func75, Tryz.ntmps75
  go_wp2_with fail
  go_ret
  exact ⟨rfl, gb_alloc (gb_refl _ _) _⟩
theorem indexOf_impl {w : World} {A : Option Addr} {c : Nat} {L : List M.Item} {k : Int} (D : SeesI w A L) :
    Calls Tryz.prog 54 #[.slice A L.length c, .int .i64 k] w fun e w' => e = .returned (.int .i64 (M.keyAt L k)) ∧ w.grownBy w' none := by
  have HC := Lib.hid (indexFuncI_key (w := w.alloc (.cells #[.int .i64 k] 3)) (c := c) (p := fun x => x.key == k) (q := .pointer (some ⟨w.heap.size, 0, none⟩)) (D.on (World.grownBy_alloc _ _ _)) (fun W hW x hx u hu => indexOf1_any W w.heap.size u k x hu (hW.cell (by rw [cell_of_row _ _ _ #[.int .i64 k] 3 (0, 0) (heap_alloc_new w _)]; rfl) (by simp))))
  rw [idxI_key] at HC
  clear D
  generalize L.length = n at *
  generalize M.keyAt L k = r at *
  go_enter Tryz.func54, Tryz.ntmps54
  go_wp2_with fail
  refine HC.out.mono ?_
  rintro e w1 ⟨rfl, hg⟩
  have G := Lib.hid (gb_trans (World.grownBy_alloc w _ none) hg)
  clear hg
  go_wp2_with fail
  go_ret
  exact ⟨rfl, G.out⟩
theorem keyAt_spec {w : World} {A : Option Addr} {c : Nat} {L : List M.Item} {k : Int} (D : SeesI w A L) :
    Calls Tryz.prog 83 #[.slice A L.length c, .int .i64 k] w fun e w' => e = .returned (.int .i64 (M.keyAt L k)) ∧ w.grownBy w' none := by
  rw [← idxI_key]
  have hl := D.2.1
  obtain ⟨n, hn⟩ : ∃ n, n = L.length := ⟨_, rfl⟩
  rw [← hn] at hl ⊢
  have HL := Lib.hid hn
  have HD := Lib.hid D
  clear hn D
  go_enter Tryz.func83, Tryz.ntmps83
  go_wp2_with fail
  go_loopw [5] (fun i wr => ∃ j : Nat, j ≤ n ∧ i = .int .i64 j ∧ (∀ x ∈ L.take j, (x.key == k) = false) ∧ w.grownBy wr none) (fun i _ => n - (intOf i).toNat)
  case atStart => exact ⟨0, Nat.zero_le _, rfl, by simp, gb_refl _ _⟩
  case round =>
    obtain ⟨j, hj, rfl, ha, hg⟩ := hrel
    have HA := Lib.hid ha
    have HG := Lib.hid hg
    clear ha hg
    by_cases hlt : j < n
    · have hkl : j < L.length := by rw [← HL.out]; exact hlt
      obtain ⟨b, o, rfl, hb1, hb2, hI⟩ := (HD.out.on HG.out).1.at_ (List.getElem?_eq_getElem hkl)
      obtain ⟨u, c0, _, _, _⟩ := hI
      have HS := Lib.hid (fun h => all_snoc_false (p := fun x : M.Item => x.key == k) hkl HA.out h)
      have HF := Lib.hid (fun h => idxI_some (p := fun x : M.Item => x.key == k) hkl HA.out h)
      generalize L[j] = y at *
      cases hp : (y.key == k)
      · have HP := Lib.hid (HS.out hp)
        go_wp2_with fail
        go_roundw
        case rel => exact ⟨j + 1, by omega, by go_num, HP.out, HG.out⟩
        case measure => simp [intOf]; omega
      · have HP := Lib.hid (HF.out hp)
        go_wp2_with fail
        go_ret
        exact ⟨ret_int HP.out.symm, HG.out⟩
    · obtain rfl : j = n := by omega
      have HN := Lib.hid (idxI_none (L := L) (p := fun x => x.key == k) (by have := HA.out; rwa [HL.out, List.take_of_length_le (Nat.le_refl _)] at this))
      go_wp2_with fail
      go_ret
      exact ⟨ret_int HN.out.symm, HG.out⟩
end Go.Proofs.YtibbpbbgmgdpdaaGreatDoor
