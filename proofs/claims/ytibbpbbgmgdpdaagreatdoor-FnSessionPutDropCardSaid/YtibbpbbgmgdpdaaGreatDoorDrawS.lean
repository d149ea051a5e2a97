/- The walks of the draws of stores. -/
import Derived.Test.YtibbpbbgmgdpdaaGreatDoorDrawV
namespace Go.Proofs.YtibbpbbgmgdpdaaGreatDoor
open Go.RowKit
set_option linter.unusedVariables false
set_option maxRecDepth 100000

theorem isVec_len {l : List Int} (h : M.isVec l = true) : l.length = 4 := by unfold M.isVec at h; simp at h; exact h.2
theorem validItem_len {x : M.Item} (h : M.validItem x = true) : x.pos.length = 4 := by
  unfold M.validItem at h
  simp only [Bool.and_eq_true] at h
  exact isVec_len h.1.2
theorem PutItem_some {L L' : List M.Item} {x : M.Item} (h : M.PutItem L x = some L') : L'.length ≤ 16 ∧ ∀ y ∈ L', y.pos.length = 4 := by
  unfold M.PutItem at h
  split at h
  · rename_i hc
    injection h with h
    subst h
    have := M.validStore_of hc.2.2
    exact ⟨this.1, fun y hy => validItem_len (this.2.1 y hy)⟩
  · cases h

/-- a store was drawn -/
def StoreDrawn (w : World) (g p : Nat) (e : Ending) (w' : World) : Prop :=
  ∃ (v : Value) (L : List M.Item), e = .returned v ∧ OwnItems w' w.heap.size v L ∧ L.length ≤ 16 ∧ (∀ x ∈ L, x.pos.length = 4) ∧ RdrB w' g p ∧ w.grownBy w' (some g)
theorem rdItems_of_row {w : World} {lo lo' : Nat} {v : Value} {LV : List (M.Item × Value)} (h2 : w.ownsRow lo 59 3 v LV.length (cellsI LV)) (hl : lo' ≤ lo) (h3 : ∀ p ∈ LV, RdInts .i64 w lo' w.heap.size p.2 p.1.pos) : RdItems w lo' w.heap.size v (LV.map (·.1)) := by
  rcases h2.2 with ⟨rfl, hn⟩ | ⟨g, cap, cur, rfl, hg, hh, hnc, hcm, hcs, htake⟩
  · have hl : LV = [] := List.eq_nil_of_length_eq_zero hn
    subst hl
    exact ⟨none, 0, rfl, Nat.le_refl _, RdI.nil_ _ _ _ _⟩
  · refine ⟨some ⟨g, 0, none⟩, cap, by rw [List.length_map], by rw [List.length_map]; exact hnc, fun _ => ⟨g, 0, rfl, by omega, lt_of_block hh, fun i x hx => ?_⟩⟩
    rw [List.getElem?_map] at hx
    obtain ⟨p, hp, rfl⟩ := Option.map_eq_some_iff.1 hx
    have hil : i < LV.length := (List.getElem?_eq_some_iff.1 hp).1
    obtain ⟨c0, c1, c2⟩ := cellsI_at hp
    have hr := fun j (hj : j < LV.length * 3) => h2.cellAt j hj
    refine ⟨p.2, ?_, ?_, ?_, h3 p (List.mem_of_getElem? hp)⟩
    · rw [Nat.zero_add, hr _ (by omega)]; exact c0
    · rw [Nat.zero_add, hr _ (by omega)]; exact c1
    · rw [Nat.zero_add, hr _ (by omega)]; exact c2
theorem cellsI_set1 {LV : List (M.Item × Value)} : ∀ {j : Nat} {x : M.Item} {u u' : Value} {l : List Int}, LV[j]? = some (x, u) → (cellsI LV).set (j * 3 + 1) u' = cellsI (LV.set j ({ x with pos := l }, u')) := by
  induction LV with
  | nil => intro j x u u' l h; simp at h
  | cons q r ih =>
    intro j x u u' l h
    have hc : ∀ (q : M.Item × Value) r, cellsI (q :: r) = .int .i64 q.1.key :: q.2 :: .int .i64 q.1.tags :: cellsI r := fun _ _ => rfl
    cases j with
    | zero =>
      simp at h
      subst h
      rfl
    | succ j =>
      rw [hc, show (j + 1) * 3 + 1 = (j * 3 + 1) + 1 + 1 + 1 from by omega]
      simp only [List.set_cons_succ]
      rw [hc, ih (l := l) (by simpa using h)]

/-- a store was drawn that may be spoiled -/
def AnyDrawn (w : World) (g p : Nat) (e : Ending) (w' : World) : Prop :=
  ∃ (v : Value) (L : List M.Item), e = .returned v ∧ RdItems w' w.heap.size w'.heap.size v L ∧ L.length ≤ 17 ∧ (∀ x ∈ L, x.pos.length ≤ 5) ∧ RdrB w' g p ∧ w.grownBy w' (some g)
end Go.Proofs.YtibbpbbgmgdpdaaGreatDoor
