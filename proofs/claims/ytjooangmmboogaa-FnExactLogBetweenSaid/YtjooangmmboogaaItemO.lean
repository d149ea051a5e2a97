/- Words for memory: items of the call's own. -/
import Derived.Test.YtjooangmmboogaaRows
import Derived.Test.YtjooangmmboogaaItemB
namespace Go.Proofs.Ytjooangmmboogaa
open Go.RowKit
set_option linter.unusedVariables false

/-- the cells of items with their vectors' headers -/
def cellsI (LV : List (M.Item × Value)) : List Value := LV.flatMap fun p => [.int .i64 p.1.key, p.2, .int .i64 p.1.tags]
theorem cellsI_length (LV : List (M.Item × Value)) : (cellsI LV).length = LV.length * 3 := by
  induction LV with
  | nil => rfl
  | cons p r ih => show ([_, _, _] ++ cellsI r).length = _; rw [List.length_append, ih]; simp; omega
theorem cellsI_append (A B : List (M.Item × Value)) : cellsI (A ++ B) = cellsI A ++ cellsI B := by simp [cellsI]
theorem cellsI_one (p : M.Item × Value) : cellsI [p] = [.int .i64 p.1.key, p.2, .int .i64 p.1.tags] := by simp [cellsI]
theorem cellsI_at {LV : List (M.Item × Value)} : ∀ {i : Nat} {p : M.Item × Value}, LV[i]? = some p →
    (cellsI LV)[i * 3]? = some (.int .i64 p.1.key) ∧ (cellsI LV)[i * 3 + 1]? = some p.2 ∧ (cellsI LV)[i * 3 + 2]? = some (.int .i64 p.1.tags) := by
  induction LV with
  | nil => intro i p h; simp at h
  | cons q r ih =>
    intro i p h
    have hc : cellsI (q :: r) = .int .i64 q.1.key :: q.2 :: .int .i64 q.1.tags :: cellsI r := rfl
    rw [hc]
    cases i with
    | zero =>
      simp at h
      subst h
      exact ⟨rfl, rfl, rfl⟩
    | succ i =>
      have := ih (i := i) (p := p) (by simpa using h)
      rw [show (i + 1) * 3 = i * 3 + 1 + 1 + 1 from by omega]
      simpa using this

/-- a slice of items of the call's own, each vector in a block of its own -/
def OwnItems (w : World) (lo : Nat) (v : Value) (L : List M.Item) : Prop :=
  ∃ LV : List (M.Item × Value), LV.map (·.1) = L ∧ w.ownsRow lo 31 3 v LV.length (cellsI LV) ∧ (∀ p ∈ LV, OwnInts .i64 3 w lo p.2 p.1.pos) ∧
    LV.Pairwise (fun p q => p.2.ownBlock = none ∨ p.2.ownBlock ≠ q.2.ownBlock)

theorem own_ge {w : World} {lo size n : Nat} {e : TypeId} {v : Value} {xs : List Value} {r : Option Nat} (h : w.ownsRow lo e size v n xs) (hr : ∀ g, r = some g → g < lo) : v.ownBlock = none ∨ v.ownBlock ≠ r := by
  cases hv : v.ownBlock with
  | none => exact .inl rfl
  | some b =>
    refine .inr fun e => ?_
    have h1 := (h.lt b hv).1
    have h2 := hr b e.symm
    omega
theorem OwnItems.grown {w w' : World} {lo : Nat} {v : Value} {L : List M.Item} {r : Option Nat} (h : OwnItems w lo v L) (hg : w.grownBy w' r) (hr : ∀ g, r = some g → g < lo) : OwnItems w' lo v L := by
  obtain ⟨LV, h1, h2, h3, h4⟩ := h
  exact ⟨LV, h1, h2.kept hg (own_ge h2 hr), fun p hp => (h3 p hp).grown hg hr, h4⟩
theorem OwnItems.wide {w : World} {lo lo' : Nat} {v : Value} {L : List M.Item} (h : OwnItems w lo v L) (hl : lo' ≤ lo) : OwnItems w lo' v L := by
  obtain ⟨LV, h1, h2, h3, h4⟩ := h
  refine ⟨LV, h1, ⟨h2.1, ?_⟩, fun p hp => (h3 p hp).wide hl, h4⟩
  rcases h2.2 with h0 | ⟨g, cap, cur, hv, hg, r⟩
  · exact .inl h0
  · exact .inr ⟨g, cap, cur, hv, by omega, r⟩
theorem OwnItems.rd {w : World} {lo : Nat} {v : Value} {L : List M.Item} (h : OwnItems w lo v L) : RdItems w lo w.heap.size v L := by
  obtain ⟨LV, rfl, h2, h3, h4⟩ := h
  rcases h2.2 with ⟨rfl, hn⟩ | ⟨g, cap, cur, rfl, hg, hh, hnc, hcm, hcs, htake⟩
  · have hl : LV = [] := List.eq_nil_of_length_eq_zero hn
    subst hl
    exact ⟨none, 0, rfl, Nat.le_refl _, RdI.nil_ _ _ _ _⟩
  · refine ⟨some ⟨g, 0, none⟩, cap, by rw [List.length_map], by rw [List.length_map]; exact hnc, fun _ => ⟨g, 0, rfl, hg, lt_of_block hh, fun i x hx => ?_⟩⟩
    rw [List.getElem?_map] at hx
    obtain ⟨p, hp, rfl⟩ := Option.map_eq_some_iff.1 hx
    have hil : i < LV.length := (List.getElem?_eq_some_iff.1 hp).1
    obtain ⟨c0, c1, c2⟩ := cellsI_at hp
    have hr := fun j (hj : j < LV.length * 3) => h2.cellAt j hj
    refine ⟨p.2, ?_, ?_, ?_, (h3 p (List.mem_of_getElem? hp)).rd⟩
    · rw [Nat.zero_add, hr _ (by omega)]; exact c0
    · rw [Nat.zero_add, hr _ (by omega)]; exact c1
    · rw [Nat.zero_add, hr _ (by omega)]; exact c2

/-- one item more -/
theorem OwnItems.push {w : World} {lo : Nat} {v' : Value} {LV : List (M.Item × Value)} {p : M.Item × Value} (h2 : w.ownsRow lo 31 3 v' (LV.length + 1) (cellsI LV ++ cellsI [p])) (h3 : ∀ q ∈ LV, OwnInts .i64 3 w lo q.2 q.1.pos)
    (h4 : LV.Pairwise (fun p q => p.2.ownBlock = none ∨ p.2.ownBlock ≠ q.2.ownBlock)) (h5 : OwnInts .i64 3 w lo p.2 p.1.pos) (h6 : ∀ q ∈ LV, q.2.ownBlock = none ∨ q.2.ownBlock ≠ p.2.ownBlock) :
    OwnItems w lo v' (LV.map (·.1) ++ [p.1]) := by
  refine ⟨LV ++ [p], by simp, by rw [← cellsI_append] at h2; simpa using h2, fun q hq => ?_, ?_⟩
  · rw [List.mem_append] at hq
    rcases hq with hq | hq
    · exact h3 q hq
    · simp at hq; subst hq; exact h5
  · rw [List.pairwise_append]
    exact ⟨h4, by simp, fun q hq r hr => by simp at hr; subst hr; exact h6 q hq⟩

theorem set3 {A rest : List Value} {m : Nat} (hA : A.length = m) (x y z : Value) (hr : 3 ≤ rest.length) :
    (((A ++ rest).set m x).set (m + 1) y).set (m + 2) z = A ++ [x, y, z] ++ rest.drop 3 := by
  match rest, hr with
  | a :: b :: c :: r, _ =>
    subst hA
    rw [List.set_append_right _ _ (Nat.le_refl _), List.set_append_right _ _ (by omega), List.set_append_right _ _ (by omega)]
    simp

theorem own_types' {w : World} {lo lo' size size' n n' : Nat} {v v' : Value} {xs xs' : List Value} (h : w.ownsRow lo 3 size v n xs) (h' : w.ownsRow lo' 31 size' v' n' xs') : v.ownBlock = none ∨ v.ownBlock ≠ v'.ownBlock := by
  rcases h.2 with ⟨rfl, _⟩ | ⟨g, cap, cur, rfl, _, hh, _⟩
  · exact .inl rfl
  · refine .inr fun e1 => ?_
    rcases h'.2 with ⟨rfl, _⟩ | ⟨g', cap', cur', rfl, _, hh', _⟩
    · simp [Value.ownBlock] at e1
    · simp only [Value.ownBlock, Option.some.injEq] at e1
      subst e1
      rw [hh] at hh'
      injection hh' with h3
      injection h3 with _ h4
      exact absurd h4 (by decide)

end Go.Proofs.Ytjooangmmboogaa
