/- What the arguments of a law read as, for the rows. What a slice of items that came in reads as, for the rows. What a slice of entries that came in reads as, for the rows. -/
import Derived.Test.YtamaoljjoghajaaRows
import Derived.Test.YtamaoljjoghajaaBase
import Derived.ProofKit
import Derived.OpenShut
import Derived.ShutString
import Derived.ChangeOld
import Derived.Deep.Slices
import Derived.Test.YtamaoljjoghajaaEnt
namespace Go.Proofs.Ytamaoljjoghajaa
open Go.ChangeShapes Go.WideShapes Go.ChangeAt Go.RowKit
set_option linter.unusedVariables false
set_option maxRecDepth 100000

theorem own : ownKnob Try.prog.godebug = none := by kernel_rfl
theorem laidOut : laidOutB Try.prog = true := by kernel_rfl

theorem wf_u8 {n : Int} (h : (Lit.int .u8 n).wf = true) : 0 ≤ n ∧ n ≤ 255 := bounds_u8 h
/-- a slice of bytes that came in -/
theorem code_row {H : Type} {enc : TypeId × Value → H} {W : World} {x : DataW H} {p : List MemPlace} {a0 : Option Addr} {len cap : Nat}
    (h : DataW.Trod enc Try.prog W 0 (fun _ => true) true 37 (.slice a0 len cap) x p) :
    ∃ bs : List Int, len = bs.length ∧ bs.length ≤ cap ∧ (∀ x ∈ bs, 0 ≤ x ∧ x ≤ 255) ∧ Rd W 0 W.heap.size a0 (bs.map (.int .u8)) := by
  obtain ⟨fuel, hf⟩ := h
  rcases open_ints Try.underlying37 Try.underlying5 (by kernel_rfl) hf with ⟨hcs, _⟩ | ⟨x, l, c, zs, hcs, _, hl, hm, hz, _, hcell, hwz⟩
  · simp [Value.cells] at hcs
    obtain ⟨rfl, rfl, rfl⟩ := hcs
    exact ⟨[], rfl, Nat.le_refl _, by simp, Rd.nil_ _ _ _ _⟩
  · simp [Value.cells] at hcs
    obtain ⟨rfl, rfl, rfl⟩ := hcs
    have hz' : zs.length = cap := by simpa using hz
    refine ⟨zs.take len, by simp; omega, by simp; omega, fun x hx => wf_u8 (hwz x (List.mem_of_mem_take hx)), fun hn => ?_⟩
    obtain ⟨b, o, sp⟩ := x
    have hpos : 0 < zs.length := by
      rcases Nat.eq_zero_or_pos zs.length with h0 | h0
      · exact absurd (by rw [List.eq_nil_of_length_eq_zero h0]; simp) hn
      · exact h0
    have hc0 := hcell 0 hpos
    have hsp : sp = none := by simpa [Addr.add] using World.cell?_spot hc0
    subst hsp
    have hb : b < W.heap.size := World.block_lt_of_cell? W _ hc0
    refine ⟨b, o, rfl, Nat.zero_le _, hb, fun j u hu => ?_⟩
    rw [List.getElem?_map, List.getElem?_take] at hu
    split at hu
    · rename_i hj
      have hjz : j < zs.length := by omega
      have := hcell j hjz
      rw [show (⟨b, o, none⟩ : Addr).add j = ⟨b, o + j, none⟩ from Addr.add_lit _ _ _] at this
      rw [this]
      simp [hjz] at hu
      simp [hjz, hu]
    · simp at hu

end Go.Proofs.Ytamaoljjoghajaa

namespace Go.Proofs.Ytamaoljjoghajaa
open Go.ChangeShapes Go.WideShapes Go.ChangeAt Go.RowKit Go.Deep
set_option linter.unusedVariables false
set_option maxRecDepth 100000

theorem cells_int : Try.prog.cellsOf 3 = 1 := by kernel_rfl
theorem cells_ints : Try.prog.cellsOf 23 = 1 := by kernel_rfl
theorem cells_litem : Try.prog.cellsOf 60 = 3 := by kernel_rfl

/-- a slice of integers, by its cell -/
theorem ints_cell {H : Type} {enc : TypeId × Value → H} {W : World} {fuel : Nat} {u : Value} {x : DataW H × List MemPlace}
    (h : DataW.trod enc Try.prog W 0 (fun _ => true) true fuel 23 [u] = some x) : ∃ l : List Int, l.length ≤ maxLen ∧ RdInts .i64 W 0 W.heap.size u l := by
  rcases open_ints Try.underlying23 Try.underlying3 cells_int h with ⟨hcs, _⟩ | ⟨a, len, cap, zs, hcs, _, hl, hm, hz, _, hcell, hwz⟩
  · simp at hcs
    subst hcs
    exact ⟨[], by unfold maxLen; simp, none, 0, rfl, Nat.le_refl _, Rd.nil_ _ _ _ _⟩
  · simp at hcs
    subst hcs
    have hz' : zs.length = cap := by simpa using hz
    refine ⟨zs.take len, by rw [List.length_take]; omega, some a, cap, by rw [List.length_take, hz', Nat.min_eq_left hl], by rw [List.length_take]; omega, fun hn => ?_⟩
    obtain ⟨b, o, sp⟩ := a
    have hpos : 0 < zs.length := by
      rcases Nat.eq_zero_or_pos zs.length with h0 | h0
      · exact absurd (by rw [List.eq_nil_of_length_eq_zero h0]; simp) hn
      · exact h0
    have hc0 := hcell 0 hpos
    have hsp : sp = none := by simpa [Addr.add] using World.cell?_spot hc0
    subst hsp
    refine ⟨b, o, rfl, Nat.zero_le _, World.block_lt_of_cell? W _ hc0, fun j u hu => ?_⟩
    rw [List.getElem?_map, List.getElem?_take] at hu
    split at hu
    · rename_i hj
      have hjz : j < zs.length := by omega
      have := hcell j hjz
      rw [show (⟨b, o, none⟩ : Addr).add j = ⟨b, o + j, none⟩ from Addr.add_lit _ _ _] at this
      rw [this]
      simp [hjz] at hu
      simp [hjz, hu]
    · simp at hu

theorem list3 {α : Type} {l : List α} (h : l.length = 3) : ∃ a b c, l = [a, b, c] := by
  match l, h with
  | [a, b, c], _ => exact ⟨a, b, c, rfl⟩
theorem list4 {α : Type} {l : List α} (h : l.length = 4) : ∃ a b c d, l = [a, b, c, d] := by
  match l, h with
  | [a, b, c, d], _ => exact ⟨a, b, c, d, rfl⟩
theorem list2 {α : Type} {l : List α} (h : l.length = 2) : ∃ a b, l = [a, b] := by
  match l, h with
  | [a, b], _ => exact ⟨a, b, rfl⟩
/-- one item, by its cells -/
theorem item_cells {H : Type} {enc : TypeId × Value → H} {W : World} {fuel : Nat} {cs : List Value} {x : DataW H × List MemPlace}
    (h : DataW.trod enc Try.prog W 0 (fun _ => true) true fuel 60 cs = some x) : ∃ (y : M.Item) (u : Value), cs = [.int .i64 y.key, u, .int .i64 y.tags] ∧ y.pos.length ≤ maxLen ∧ RdInts .i64 W 0 W.heap.size u y.pos := by
  obtain ⟨xs, n, _, _, hcl, hxl, hg⟩ := DataW.trod_struct Try.underlying60 h
  rw [cells_litem] at hcl
  obtain ⟨c0, c1, c2, rfl⟩ := list3 hcl
  · skip
    have g0 : DataW.trod enc Try.prog W 0 (fun _ => true) true n 3 (([c0, c1, c2].drop 0).take (Try.prog.cellsOf 3)) = xs[0]? := hg 0 _ rfl
    have g1 : DataW.trod enc Try.prog W 0 (fun _ => true) true n 23 (([c0, c1, c2].drop 1).take (Try.prog.cellsOf 23)) = xs[1]? := hg 1 _ rfl
    have g2 : DataW.trod enc Try.prog W 0 (fun _ => true) true n 3 (([c0, c1, c2].drop 2).take (Try.prog.cellsOf 3)) = xs[2]? := hg 2 _ rfl
    rw [cells_int] at g0 g2
    rw [cells_ints] at g1
    have hx : ∀ i, i < 3 → ∃ y, xs[i]? = some y := fun i hi => ⟨_, List.getElem?_eq_getElem (by rw [hxl]; exact hi)⟩
    obtain ⟨y0, e0⟩ := hx 0 (by omega)
    obtain ⟨y1, e1⟩ := hx 1 (by omega)
    obtain ⟨y2, e2⟩ := hx 2 (by omega)
    rw [e0] at g0
    rw [e1] at g1
    rw [e2] at g2
    obtain ⟨k, hk, _, _⟩ := DataW.trod_int Try.underlying3 g0
    obtain ⟨t, ht, _, _⟩ := DataW.trod_int Try.underlying3 g2
    obtain ⟨l, hl, hr⟩ := ints_cell g1
    simp at hk ht
    subst hk ht
    exact ⟨⟨k, l, t⟩, c1, rfl, hl, hr⟩

theorem items_row {H : Type} {enc : TypeId × Value → H} {W : World} {x : DataW H} {p : List MemPlace} {a0 : Option Addr} {len cap : Nat}
    (h : DataW.Trod enc Try.prog W 0 (fun _ => true) true 22 (.slice a0 len cap) x p) :
    ∃ L : List M.Item, len = L.length ∧ L.length ≤ cap ∧ L.length ≤ maxLen ∧ (∀ x ∈ L, x.pos.length ≤ maxLen) ∧ RdI W 0 W.heap.size a0 L := by
  obtain ⟨fuel, hf⟩ := h
  rcases open_slice Try.underlying22 hf with ⟨hcs, _⟩ | ⟨a, l, c, m, n, D, Pl, hcs, _, hl, hm, hmm, _, hi⟩
  · simp [Value.cells] at hcs
    obtain ⟨rfl, rfl, rfl⟩ := hcs
    exact ⟨[], rfl, Nat.le_refl _, by unfold maxLen; simp, by simp, RdI.nil_ _ _ _ _⟩
  · simp [Value.cells] at hcs
    obtain ⟨rfl, rfl, rfl⟩ := hcs
    have hm' : m = cap := by simpa using hmm
    rw [cells_litem] at hi
    have hx : ∀ i, i < len → ∃ y : M.Item, ∃ u, y.pos.length ≤ maxLen ∧ RdInts .i64 W 0 W.heap.size u y.pos ∧ W.cell? ((a.add (i * 3)).add 0) = some (.int .i64 y.key) ∧ W.cell? ((a.add (i * 3)).add 1) = some u ∧ W.cell? ((a.add (i * 3)).add 2) = some (.int .i64 y.tags) := fun i hil => by
      obtain ⟨cs, hc, ht⟩ := hi i (by omega)
      obtain ⟨y, u, rfl, hp, hr⟩ := item_cells ht
      obtain ⟨_, _, hat⟩ := World.cells?_some hc
      exact ⟨y, u, hp, hr, hat 0 (by omega), hat 1 (by omega), hat 2 (by omega)⟩
    have hF : ∃ F : Nat → M.Item, ∀ i, i < len → ∃ u, (F i).pos.length ≤ maxLen ∧ RdInts .i64 W 0 W.heap.size u (F i).pos ∧ W.cell? ((a.add (i * 3)).add 0) = some (.int .i64 (F i).key) ∧ W.cell? ((a.add (i * 3)).add 1) = some u ∧ W.cell? ((a.add (i * 3)).add 2) = some (.int .i64 (F i).tags) :=
      ⟨fun i => if h : i < len then Classical.choose (hx i h) else ⟨0, [], 0⟩, fun i hil => by simp only [dif_pos hil]; exact Classical.choose_spec (hx i hil)⟩
    obtain ⟨F, hF⟩ := hF
    refine ⟨(List.range len).map F, by simp, by simpa using hl, by simp; omega, fun y hy => ?_, fun hn => ?_⟩
    · simp only [List.mem_map, List.mem_range] at hy
      obtain ⟨i, hil, rfl⟩ := hy
      obtain ⟨_, hp, _⟩ := hF i hil
      exact hp
    · have hpos : 0 < len := by
        rcases Nat.eq_zero_or_pos len with h0 | h0
        · subst h0; exact absurd rfl hn
        · exact h0
      obtain ⟨b, o, sp⟩ := a
      obtain ⟨u0, _, _, hc0, _⟩ := hF 0 hpos
      have hsp : sp = none := by simpa [Addr.add] using World.cell?_spot hc0
      subst hsp
      have hb : b < W.heap.size := by
        have := World.block_lt_of_cell? W _ hc0
        simpa [Addr.add] using this
      refine ⟨b, o, rfl, Nat.zero_le _, hb, fun i y hy => ?_⟩
      rw [List.getElem?_map] at hy
      obtain ⟨i', hi', rfl⟩ := Option.map_eq_some_iff.1 hy
      have hil : i < len := by
        have := (List.getElem?_eq_some_iff.1 hi').1
        simpa using this
      have hii : i' = i := by
        rw [List.getElem?_range hil] at hi'
        exact (Option.some.inj hi').symm
      subst hii
      obtain ⟨u, _, hr, d0, d1, d2⟩ := hF i' hil
      rw [Addr.add_lit, Addr.add_lit] at d0 d1 d2
      exact ⟨u, d0, d1, d2, hr⟩

end Go.Proofs.Ytamaoljjoghajaa

namespace Go.Proofs.Ytamaoljjoghajaa
open Go.ChangeShapes Go.WideShapes Go.ChangeAt Go.RowKit Go.Deep
set_option linter.unusedVariables false
set_option maxRecDepth 100000

/-- a history that came in -/
def HisIn (W : World) (u : Option Addr × Nat × Option Addr × Nat) (L : M.Hist) : Prop :=
  L.log.length ≤ u.2.1 ∧ L.log.length ≤ maxLen ∧ (∀ x ∈ L.log, x.item.pos.length ≤ maxLen) ∧ RdE W 0 W.heap.size u.1 L.log ∧ L.times.length ≤ u.2.2.2 ∧ L.times.length ≤ maxLen ∧ Rd W 0 W.heap.size u.2.2.1 (L.times.map (.int .i64))
end Go.Proofs.Ytamaoljjoghajaa
