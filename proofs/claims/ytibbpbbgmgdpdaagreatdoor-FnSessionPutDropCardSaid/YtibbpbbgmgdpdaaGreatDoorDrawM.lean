/- The walks of the draws of a store with numbers. -/
import Derived.Test.YtibbpbbgmgdpdaaGreatDoorSee
namespace Go.Proofs.YtibbpbbgmgdpdaaGreatDoor
open Go.RowKit
set_option linter.unusedVariables false
set_option maxRecDepth 100000

theorem RdrB.of {w : World} {g p : Nat} (h : Rdr w g p) : RdrB w g p := ⟨p, Nat.le_refl _, h⟩
/-- a list of items behind the reader's block -/
def SeesG (g : Nat) (w : World) (A : Option Addr) (L : List M.Item) : Prop := RdI w (g + 1) w.heap.size A L ∧ Small L
theorem SeesG.onG {g : Nat} {w w' : World} {A : Option Addr} {L : List M.Item} (h : SeesG g w A L) (hg : w.grownBy w' (some g)) : SeesG g w' A L :=
  ⟨(h.1.agree (Agree.of_grown_some hg)).wide (Nat.le_refl _) hg.size, h.2⟩
theorem SeesG.sees {g : Nat} {w : World} {A : Option Addr} {L : List M.Item} (h : SeesG g w A L) : SeesI w A L := ⟨h.1.wide (Nat.zero_le _) (Nat.le_refl _), h.2⟩
def StoreGot (w : World) (g p : Nat) (e : Ending) (w' : World) : Prop :=
  ∃ (A : Option Addr) (c : Nat) (L : List M.Item), e = .returned (.slice A L.length c) ∧ L.length ≤ c ∧ SeesG g w' A L ∧ RdrB w' g p ∧ w.grownBy w' (some g)
/-- a store and two numbers were drawn -/
def DrewSNN (w : World) (e : Ending) (w' : World) : Prop :=
  ∃ (A : Option Addr) (c : Nat) (L : List M.Item) (f t : Int), e = .returned (.tuple #[.slice A L.length c, .int .i64 f, .int .i64 t]) ∧ -100 ≤ f ∧ f ≤ 100 ∧ -100 ≤ t ∧ t ≤ 100 ∧ L.length ≤ c ∧ SeesI w' A L ∧ w.grownBy w' none
end Go.Proofs.YtibbpbbgmgdpdaaGreatDoor
