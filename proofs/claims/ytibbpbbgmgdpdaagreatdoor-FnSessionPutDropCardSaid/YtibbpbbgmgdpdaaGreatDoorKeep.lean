/- What is read stays read while the world grows. No program in sight. -/
import Derived.Test.YtibbpbbgmgdpdaaGreatDoorMarkW
namespace Go.Proofs.YtibbpbbgmgdpdaaGreatDoor
open Go.RowKit
set_option linter.unusedVariables false
theorem RdInts.keep {k : IntKind} {w w' : World} {lo hi : Nat} {v : Value} {l : List Int} (h : RdInts k w lo hi v l) (hg : w.grownBy w' none) (hh : hi ≤ w.heap.size) : RdInts k w' lo hi v l := h.agree fun b _ h2 => (Agree.of_grown hg) b (Nat.zero_le _) (by omega)
theorem RdI.keep {w w' : World} {lo hi : Nat} {A : Option Addr} {L : List M.Item} (h : RdI w lo hi A L) (hg : w.grownBy w' none) (hh : hi ≤ w.heap.size) : RdI w' lo hi A L := h.agree fun b _ h2 => (Agree.of_grown hg) b (Nat.zero_le _) (by omega)
theorem Rd.keep {w w' : World} {lo hi : Nat} {A : Option Addr} {L : List Value} (h : Rd w lo hi A L) (hg : w.grownBy w' none) (hh : hi ≤ w.heap.size) : Rd w' lo hi A L := h.agree fun b _ h2 => (Agree.of_grown hg) b (Nat.zero_le _) (by omega)
theorem RdInts.rd {k : IntKind} {w : World} {lo hi : Nat} {A : Option Addr} {n c : Nat} {l : List Int} (h : RdInts k w lo hi (.slice A n c) l) : Rd w lo hi A (l.map (.int k)) := by
  obtain ⟨A', c', e, _, hr⟩ := h
  injection e with h1
  subst h1
  exact hr
theorem RdItems.rd {w : World} {lo hi : Nat} {A : Option Addr} {n c : Nat} {L : List M.Item} (h : RdItems w lo hi (.slice A n c) L) : RdI w lo hi A L := by
  obtain ⟨A', c', e, _, hr⟩ := h
  injection e with h1
  subst h1
  exact hr
theorem MovedKeys_le (L : List M.Item) (f t : Int) : (M.MovedKeys L f t).length ≤ L.length := by
  unfold M.MovedKeys M.moved
  split
  · rw [List.length_map]; exact List.length_filter_le _ _
  · exact Nat.zero_le _
end Go.Proofs.YtibbpbbgmgdpdaaGreatDoor
