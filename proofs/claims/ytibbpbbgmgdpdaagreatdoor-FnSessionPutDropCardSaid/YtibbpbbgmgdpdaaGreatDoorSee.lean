/- What a law sees of lists in memory, while the world only grows; the contracts in these words. -/
import Derived.Test.YtibbpbbgmgdpdaaGreatDoorShardIW
import Derived.Test.YtibbpbbgmgdpdaaGreatDoorMovedW
import Derived.Test.YtibbpbbgmgdpdaaGreatDoorKeep
import Derived.Test.YtibbpbbgmgdpdaaGreatDoorDrawS
namespace Go.Proofs.YtibbpbbgmgdpdaaGreatDoor
open Go.RowKit
set_option linter.unusedVariables false
set_option maxRecDepth 100000

/-- a list of items of no great size -/
def Small (L : List M.Item) : Prop := L.length ≤ 1048576 ∧ ∀ x ∈ L, x.pos.length ≤ 1048576
theorem Small.nil_ : Small [] := ⟨by simp, by simp⟩
theorem Small.filter {L : List M.Item} (h : Small L) (p : M.Item → Bool) : Small (L.filter p) := ⟨Nat.le_trans (List.length_filter_le _ _) h.1, fun x hx => h.2 x (List.mem_filter.1 hx).1⟩
theorem Small.of_valid {L : List M.Item} (h : M.validStore L = true) : Small L :=
  ⟨by have := (M.validStore_of h).1; omega, fun x hx => by have := validItem_len ((M.validStore_of h).2.1 x hx); omega⟩
theorem Small.take {L : List M.Item} (h : Small L) (k : Nat) : Small (L.take k) := ⟨by rw [List.length_take]; have := h.1; omega, fun x hx => h.2 x (List.mem_of_mem_take hx)⟩
theorem Small.drop {L : List M.Item} (h : Small L) (k : Nat) : Small (L.drop k) := ⟨by rw [List.length_drop]; have := h.1; omega, fun x hx => h.2 x (List.mem_of_mem_drop hx)⟩
def SeesI (w : World) (A : Option Addr) (L : List M.Item) : Prop := RdI w 0 w.heap.size A L ∧ Small L
theorem SeesI.on {w w' : World} {A : Option Addr} {L : List M.Item} (h : SeesI w A L) (hg : w.grownBy w' none) : SeesI w' A L := ⟨(h.1.keep hg (Nat.le_refl _)).wide (Nat.le_refl _) hg.size, h.2⟩
def SeesN (k : IntKind) (w : World) (A : Option Addr) (l : List Int) : Prop := Rd w 0 w.heap.size A (l.map (.int k)) ∧ l.length ≤ 1048576
theorem SeesN.on {k : IntKind} {w w' : World} {A : Option Addr} {l : List Int} (h : SeesN k w A l) (hg : w.grownBy w' none) : SeesN k w' A l := ⟨(h.1.keep hg (Nat.le_refl _)).wide (Nat.le_refl _) hg.size, h.2⟩
/-- a slice of items is handed back -/
def GotI (w : World) (L : List M.Item) (e : Ending) (w' : World) : Prop := ∃ A c, e = .returned (.slice A L.length c) ∧ L.length ≤ c ∧ SeesI w' A L ∧ w.grownBy w' none
def GotN (k : IntKind) (w : World) (l : List Int) (e : Ending) (w' : World) : Prop := ∃ A c, e = .returned (.slice A l.length c) ∧ l.length ≤ c ∧ SeesN k w' A l ∧ w.grownBy w' none
theorem gotI_rd {w w' : World} {lo : Nat} {e : Ending} {L : List M.Item} (hs : Small L) (h : ∃ v, e = .returned v ∧ RdItems w' lo w'.heap.size v L ∧ w.grownBy w' none) : GotI w L e w' := by
  obtain ⟨v, rfl, ⟨A, c, rfl, hc, hr⟩, hg⟩ := h
  exact ⟨A, c, rfl, hc, ⟨hr.wide (Nat.zero_le _) (Nat.le_refl _), hs⟩, hg⟩
theorem gotI_own {w w' : World} {lo : Nat} {e : Ending} {L : List M.Item} (hs : Small L) (h : ∃ v, e = .returned v ∧ OwnItems w' lo v L ∧ w.grownBy w' none) : GotI w L e w' := by
  obtain ⟨v, he, ho, hg⟩ := h
  exact gotI_rd hs ⟨v, he, ho.rd, hg⟩
theorem gotN_own {k : IntKind} {t : TypeId} {w w' : World} {lo : Nat} {e : Ending} {l : List Int} (hs : l.length ≤ 1048576) (h : ∃ v, e = .returned v ∧ OwnInts k t w' lo v l ∧ w.grownBy w' none) : GotN k w l e w' := by
  obtain ⟨v, he, ho, hg⟩ := h
  obtain ⟨A, c, rfl, hc, hr⟩ := ho.rd
  exact ⟨A, c, he, hc, ⟨hr.wide (Nat.zero_le _) (Nat.le_refl _), hs⟩, hg⟩

theorem vs_impl {w : World} {A : Option Addr} {c : Nat} {L : List M.Item} (D : SeesI w A L) : Calls Tryz.prog 51 #[.slice A L.length c] w fun e w' => e = .returned (.bool (M.validStore L)) ∧ w.grownBy w' none :=
  ValidStore_impl w A c 0 w.heap.size L D.2.1 D.2.2 D.1 (Nat.le_refl _)
theorem vs_spec {w : World} {A : Option Addr} {c : Nat} {L : List M.Item} (D : SeesI w A L) : Calls Tryz.prog 68 #[.slice A L.length c] w fun e w' => e = .returned (.bool (M.validStore L)) ∧ w.grownBy w' none :=
  validStore_spec w A c 0 w.heap.size L D.2.1 D.2.2 D.1 (Nat.le_refl _)
theorem small_shard {L : List M.Item} (h : Small L) (s n : Int) : Small (M.ShardItems L s n) := by
  unfold M.ShardItems
  split
  · exact h.filter _
  · exact Small.nil_

/-! comparisons and look-ups of the laws -/

end Go.Proofs.YtibbpbbgmgdpdaaGreatDoor
