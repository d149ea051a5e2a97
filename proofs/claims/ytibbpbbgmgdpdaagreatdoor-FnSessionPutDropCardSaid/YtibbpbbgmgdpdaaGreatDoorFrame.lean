/- What the arguments of a law read as, for the rows. What a slice of items that came in reads as, for the rows. What a slice of entries that came in reads as, for the rows. -/
import Derived.Test.YtibbpbbgmgdpdaaGreatDoorRows
import Derived.Test.YtibbpbbgmgdpdaaGreatDoorBase
import Derived.ProofKit
import Derived.OpenShut
import Derived.ShutString
import Derived.ChangeOld
import Derived.Deep.Slices
import Derived.Test.YtibbpbbgmgdpdaaGreatDoorEnt
namespace Go.Proofs.YtibbpbbgmgdpdaaGreatDoor
open Go.ChangeShapes Go.WideShapes Go.ChangeAt Go.RowKit
set_option linter.unusedVariables false
set_option maxRecDepth 100000

theorem own : ownKnob Tryz.prog.godebug = none := by kernel_rfl
theorem laidOut : laidOutB Tryz.prog = true := by kernel_rfl

theorem wf_u8 {n : Int} (h : (Lit.int .u8 n).wf = true) : 0 ≤ n ∧ n ≤ 255 := bounds_u8 h
/-- a slice of bytes that came in -/
theorem code_row {H : Type} {enc : TypeId × Value → H} {W : World} {x : DataW H} {p : List MemPlace} {a0 : Option Addr} {len cap : Nat}
    (h : DataW.Trod enc Tryz.prog W 0 (fun _ => true) true 22 (.slice a0 len cap) x p) :
    ∃ bs : List Int, len = bs.length ∧ bs.length ≤ cap ∧ (∀ x ∈ bs, 0 ≤ x ∧ x ≤ 255) ∧ Rd W 0 W.heap.size a0 (bs.map (.int .u8)) := by
  obtain ⟨fuel, hf⟩ := h
  rcases open_ints Tryz.underlying22 Tryz.underlying5 (by kernel_rfl) hf with ⟨hcs, _⟩ | ⟨x, l, c, zs, hcs, _, hl, hm, hz, _, hcell, hwz⟩
  · simp [Value.cells] at hcs
    obtain ⟨rfl, rfl, rfl⟩ := hcs
    exact ⟨[], rfl, Nat.le_refl _, by simp, Rd.nil_ _ _ _ _⟩
  · simp [Value.cells] at hcs
    obtain ⟨rfl, rfl, rfl⟩ := hcs
    have hz' : zs.length = cap := by simpa using hz
    refine ⟨zs.take len, by simp; omega, by simp; omega, fun x hx => wf_u8 (hwz x (List.mem_of_mem_take hx)), fun hn => ?_⟩
    obtain ⟨b, o, sp⟩ := x
    have hpos : 0 < zs.length := by
      rcases Nat.eq_zero_or_pos zs.length with h0 | h0
      · exact absurd (by rw [List.eq_nil_of_length_eq_zero h0]; simp) hn
      · exact h0
    have hc0 := hcell 0 hpos
    have hsp : sp = none := by simpa [Addr.add] using World.cell?_spot hc0
    subst hsp
    have hb : b < W.heap.size := World.block_lt_of_cell? W _ hc0
    refine ⟨b, o, rfl, Nat.zero_le _, hb, fun j u hu => ?_⟩
    rw [List.getElem?_map, List.getElem?_take] at hu
    split at hu
    · rename_i hj
      have hjz : j < zs.length := by omega
      have := hcell j hjz
      rw [show (⟨b, o, none⟩ : Addr).add j = ⟨b, o + j, none⟩ from Addr.add_lit _ _ _] at this
      rw [this]
      simp [hjz] at hu
      simp [hjz, hu]
    · simp at hu

end Go.Proofs.YtibbpbbgmgdpdaaGreatDoor

namespace Go.Proofs.YtibbpbbgmgdpdaaGreatDoor
open Go.ChangeShapes Go.WideShapes Go.ChangeAt Go.RowKit Go.Deep
set_option linter.unusedVariables false
set_option maxRecDepth 100000

theorem cells_int : Tryz.prog.cellsOf 3 = 1 := by kernel_rfl
theorem cells_ints : Tryz.prog.cellsOf 34 = 1 := by kernel_rfl
/-- a slice of integers, by its cell -/
theorem ints_cell {H : Type} {enc : TypeId × Value → H} {W : World} {fuel : Nat} {u : Value} {x : DataW H × List MemPlace}
    (h : DataW.trod enc Tryz.prog W 0 (fun _ => true) true fuel 34 [u] = some x) : ∃ l : List Int, l.length ≤ maxLen ∧ RdInts .i64 W 0 W.heap.size u l := by
  rcases open_ints Tryz.underlying34 Tryz.underlying3 cells_int h with ⟨hcs, _⟩ | ⟨a, len, cap, zs, hcs, _, hl, hm, hz, _, hcell, hwz⟩
  · simp at hcs
    subst hcs
    exact ⟨[], by unfold maxLen; simp, none, 0, rfl, Nat.le_refl _, Rd.nil_ _ _ _ _⟩
  · simp at hcs
    subst hcs
    have hz' : zs.length = cap := by simpa using hz
    refine ⟨zs.take len, by rw [List.length_take]; omega, some a, cap, by rw [List.length_take, hz', Nat.min_eq_left hl], by rw [List.length_take]; omega, fun hn => ?_⟩
    obtain ⟨b, o, sp⟩ := a
    have hpos : 0 < zs.length := by
      rcases Nat.eq_zero_or_pos zs.length with h0 | h0
      · exact absurd (by rw [List.eq_nil_of_length_eq_zero h0]; simp) hn
      · exact h0
    have hc0 := hcell 0 hpos
    have hsp : sp = none := by simpa [Addr.add] using World.cell?_spot hc0
    subst hsp
    refine ⟨b, o, rfl, Nat.zero_le _, World.block_lt_of_cell? W _ hc0, fun j u hu => ?_⟩
    rw [List.getElem?_map, List.getElem?_take] at hu
    split at hu
    · rename_i hj
      have hjz : j < zs.length := by omega
      have := hcell j hjz
      rw [show (⟨b, o, none⟩ : Addr).add j = ⟨b, o + j, none⟩ from Addr.add_lit _ _ _] at this
      rw [this]
      simp [hjz] at hu
      simp [hjz, hu]
    · simp at hu

theorem list3 {α : Type} {l : List α} (h : l.length = 3) : ∃ a b c, l = [a, b, c] := by
  match l, h with
  | [a, b, c], _ => exact ⟨a, b, c, rfl⟩
theorem list4 {α : Type} {l : List α} (h : l.length = 4) : ∃ a b c d, l = [a, b, c, d] := by
  match l, h with
  | [a, b, c, d], _ => exact ⟨a, b, c, d, rfl⟩
theorem list2 {α : Type} {l : List α} (h : l.length = 2) : ∃ a b, l = [a, b] := by
  match l, h with
  | [a, b], _ => exact ⟨a, b, rfl⟩
end Go.Proofs.YtibbpbbgmgdpdaaGreatDoor

namespace Go.Proofs.YtibbpbbgmgdpdaaGreatDoor
open Go.ChangeShapes Go.WideShapes Go.ChangeAt Go.RowKit Go.Deep
set_option linter.unusedVariables false
set_option maxRecDepth 100000

/-- a history that came in -/
def HisIn (W : World) (u : Option Addr × Nat × Option Addr × Nat) (L : M.Hist) : Prop :=
  L.log.length ≤ u.2.1 ∧ L.log.length ≤ maxLen ∧ (∀ x ∈ L.log, x.item.pos.length ≤ maxLen) ∧ RdE W 0 W.heap.size u.1 L.log ∧ L.times.length ≤ u.2.2.2 ∧ L.times.length ≤ maxLen ∧ Rd W 0 W.heap.size u.2.2.1 (L.times.map (.int .i64))
end Go.Proofs.YtibbpbbgmgdpdaaGreatDoor
