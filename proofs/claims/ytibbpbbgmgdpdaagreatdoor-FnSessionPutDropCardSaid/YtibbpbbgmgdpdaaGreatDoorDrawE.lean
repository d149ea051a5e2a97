/- The walks of the draws of entries and logs. -/
import Derived.Test.YtibbpbbgmgdpdaaGreatDoorDrawS
import Derived.Test.YtibbpbbgmgdpdaaGreatDoorDrawM
import Derived.Test.YtibbpbbgmgdpdaaGreatDoorEnt
namespace Go.Proofs.YtibbpbbgmgdpdaaGreatDoor
open Go.RowKit
set_option linter.unusedVariables false
set_option maxRecDepth 100000

theorem four_cell_at {w : World} {t : TypeId} {x y z u : Value} {g : Nat} (hg : g = w.heap.size) : ∀ (j : Nat) (v : Value), [x, y, z, u][j]? = some v → (w.alloc (.cells #[x, y, z, u] t)).cell? ((⟨g, 0, none⟩ : Addr).add j) = some v := by
  subst hg
  intro j v hv
  rw [Addr.add_lit, Nat.zero_add, cell_of_row _ _ _ #[x, y, z, u] t (0, 0) (heap_alloc_new w _)]
  simpa using hv
theorem entry_oneCell {q k t : Int} {A : Option Addr} {n c : Nat} : ∀ u ∈ [Value.int .i64 q, Value.int .i64 k, Value.slice A n c, Value.int .i64 t], u.oneCell' = true := by
  intro u hu
  simp at hu
  rcases hu with rfl | rfl | rfl | rfl <;> rfl
/-- an entry was drawn -/
def EntDrawn (w : World) (g p m : Nat) (e : Ending) (w' : World) : Prop :=
  ∃ (x : M.Entry) (A : Option Addr) (c : Nat), e = .returned (.agg #[.int .i64 x.kind, .int .i64 x.item.key, .slice A x.item.pos.length c, .int .i64 x.item.tags]) ∧ TV w' w.heap.size w'.heap.size (.slice A x.item.pos.length c) x.item.pos ∧ x.item.pos.length ≤ m ∧ RdrB w' g p ∧ w.grownBy w' (some g)
/-- a log behind the reader's block -/
def SeesGE (g : Nat) (w : World) (A : Option Addr) (L : List M.Entry) : Prop := RdE w (g + 1) w.heap.size A L ∧ SmallE L
theorem SeesGE.onG {g : Nat} {w w' : World} {A : Option Addr} {L : List M.Entry} (h : SeesGE g w A L) (hg : w.grownBy w' (some g)) : SeesGE g w' A L :=
  ⟨(h.1.agree (Agree.of_grown_some hg)).wide (Nat.le_refl _) hg.size, h.2⟩
theorem SeesGE.sees {g : Nat} {w : World} {A : Option Addr} {L : List M.Entry} (h : SeesGE g w A L) : SeesE w A L := ⟨h.1.wide (Nat.zero_le _) (Nat.le_refl _), h.2⟩
def DrewE (w : World) (e : Ending) (w' : World) : Prop := ∃ (A : Option Addr) (c : Nat) (L : List M.Entry), e = .returned (.slice A L.length c) ∧ L.length ≤ c ∧ SeesE w' A L ∧ w.grownBy w' none
end Go.Proofs.YtibbpbbgmgdpdaaGreatDoor
