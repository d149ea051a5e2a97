/- The walks of the marks of entries: what is marked holds its numbers. -/
import Derived.Test.YtejbfmnioomkbaaMarkW
import Derived.Test.YtejbfmnioomkbaaEnt
namespace Go.Proofs.Ytejbfmnioomkbaa
open Go.RowKit
set_option linter.unusedVariables false
set_option maxRecDepth 100000

/-- items of the call's own, all their blocks from lo on, below hi -/
def OwnLE (w : World) (lo hi : Nat) (v : Value) (LV : List (M.Entry × Value)) : Prop :=
  w.ownsRow lo 38 4 v LV.length (cellsE LV) ∧ (∀ p ∈ LV, OwnInts .i64 3 w lo p.2 p.1.item.pos) ∧ LV.Pairwise (fun p q => p.2.ownBlock = none ∨ p.2.ownBlock ≠ q.2.ownBlock) ∧
    (∀ b, v.ownBlock = some b → b < hi) ∧ (∀ p ∈ LV, ∀ b, p.2.ownBlock = some b → b < hi)
theorem OwnEntries.lv {w : World} {lo : Nat} {v : Value} {L : List M.Entry} (h : OwnEntries w lo v L) : ∃ LV, LV.map (·.1) = L ∧ OwnLE w lo w.heap.size v LV := by
  obtain ⟨LV, h1, h2, h3, h4⟩ := h
  exact ⟨LV, h1, h2, h3, h4, fun b hb => (h2.lt b hb).2, fun p hp b hb => ((h3 p hp).lt b hb).2⟩
theorem OwnLE.items {w : World} {lo hi : Nat} {v : Value} {LV : List (M.Entry × Value)} (h : OwnLE w lo hi v LV) : OwnEntries w lo v (LV.map (·.1)) := ⟨LV, rfl, h.1, h.2.1, h.2.2.1⟩
theorem OwnLE.agree {w w' : World} {lo hi : Nat} {v : Value} {LV : List (M.Entry × Value)} (h : OwnLE w lo hi v LV) (ha : Agree lo hi w w') : OwnLE w' lo hi v LV :=
  ⟨own_agree h.1 h.2.2.2.1 ha, fun p hp => own_agree (h.2.1 p hp) (h.2.2.2.2 p hp) ha, h.2.2⟩

theorem ecells_set0 (P R : List (M.Entry × Value)) (p : M.Entry × Value) (x : Int) : (cellsE (P ++ p :: R)).set (P.length * 4) (.int .i64 x) = cellsE (P ++ ({ p.1 with kind := x }, p.2) :: R) := by
  rw [cellsE_append, cellsE_append, List.set_append_right _ _ (by rw [cellsE_length]; exact Nat.le_refl _), cellsE_length, Nat.sub_self]
  rfl
theorem ecells_set1 (P R : List (M.Entry × Value)) (p : M.Entry × Value) (x : Int) : (cellsE (P ++ p :: R)).set (P.length * 4 + 1) (.int .i64 x) = cellsE (P ++ ({ p.1 with item := { p.1.item with key := x } }, p.2) :: R) := by
  rw [cellsE_append, cellsE_append, List.set_append_right _ _ (by rw [cellsE_length]; omega), cellsE_length, show P.length * 4 + 1 - P.length * 4 = 1 from by omega]
  rfl
theorem ecells_set3 (P R : List (M.Entry × Value)) (p : M.Entry × Value) (x : Int) : (cellsE (P ++ p :: R)).set (P.length * 4 + 1 + 2) (.int .i64 x) = cellsE (P ++ ({ p.1 with item := { p.1.item with tags := x } }, p.2) :: R) := by
  rw [cellsE_append, cellsE_append, List.set_append_right _ _ (by rw [cellsE_length]; omega), cellsE_length, show P.length * 4 + 1 + 2 - P.length * 4 = 3 from by omega]
  rfl
theorem ecells_pos (P R : List (M.Entry × Value)) (p : M.Entry × Value) (l : List Int) : cellsE (P ++ p :: R) = cellsE (P ++ ({ p.1 with item := { p.1.item with pos := l } }, p.2) :: R) := by
  rw [cellsE_append, cellsE_append]
  rfl

theorem OwnLE.set_ {w : World} {lo hi g cap : Nat} {n : Nat} {P R : List (M.Entry × Value)} {p : M.Entry × Value} (h : OwnLE w lo hi (.slice (some ⟨g, 0, none⟩) n cap) (P ++ p :: R)) (hn : n = (P ++ p :: R).length)
    {y : M.Entry} (hy : y.item.pos = p.1.item.pos) {i : Nat} {u : Value} (hc : (cellsE (P ++ p :: R)).set i u = cellsE (P ++ (y, p.2) :: R)) :
    OwnLE (w.setCell ⟨g, i, none⟩ u) lo hi (.slice (some ⟨g, 0, none⟩) n cap) (P ++ (y, p.2) :: R) ∧ w.grownBy (w.setCell ⟨g, i, none⟩ u) (some g) := by
  subst hn
  obtain ⟨h1, h2, h3, h4, h5⟩ := h
  have hs := h1.stored i u
  rw [hc] at hs
  have hl : (P ++ (y, p.2) :: R).length = (P ++ p :: R).length := by simp
  refine ⟨⟨by rw [hl]; exact hs.1, fun q hq => ?_, ?_, h4, fun q hq => ?_⟩, hs.2⟩
  · have hq' : ∃ q' ∈ P ++ p :: R, q'.2 = q.2 ∧ q'.1.item.pos = q.1.item.pos := by
      simp only [List.mem_append, List.mem_cons] at hq ⊢
      rcases hq with hq | rfl | hq
      · exact ⟨q, .inl hq, rfl, rfl⟩
      · exact ⟨p, .inr (.inl rfl), rfl, hy.symm⟩
      · exact ⟨q, .inr (.inr hq), rfl, rfl⟩
    obtain ⟨q', hm, e1, e2⟩ := hq'
    have hO := h2 q' hm
    rw [e1, e2] at hO
    refine hO.kept hs.2 ?_
    have := own_types hO h1 (by decide)
    simpa [Value.ownBlock] using this
  · rw [List.pairwise_append, List.pairwise_cons] at h3 ⊢
    exact ⟨h3.1, ⟨h3.2.1.1, h3.2.1.2⟩, fun a ha b hb => by
      simp only [List.mem_cons] at hb
      rcases hb with rfl | hb
      · exact h3.2.2 a ha p (by simp)
      · exact h3.2.2 a ha b (by simp [hb])⟩
  · simp only [List.mem_append, List.mem_cons] at hq
    rcases hq with hq | rfl | hq
    · exact h5 q (by simp [hq])
    · exact h5 p (by simp)
    · exact h5 q (by simp [hq])

theorem OwnLE.pos_ {w w' : World} {lo hi : Nat} {v : Value} {P R : List (M.Entry × Value)} {p : M.Entry × Value} (h : OwnLE w lo hi v (P ++ p :: R)) {l : List Int} (hO : OwnInts .i64 3 w' lo p.2 l) (hg : w.grownBy w' p.2.ownBlock) :
    OwnLE w' lo hi v (P ++ ({ p.1 with item := { p.1.item with pos := l } }, p.2) :: R) := by
  obtain ⟨h1, h2, h3, h4, h5⟩ := h
  have hpm : p ∈ P ++ p :: R := by simp
  have hl : (P ++ (({ p.1 with item := { p.1.item with pos := l } } : M.Entry), p.2) :: R).length = (P ++ p :: R).length := by simp
  have hp := h3
  rw [List.pairwise_append, List.pairwise_cons] at hp
  have hne : ∀ q : Value, (q.ownBlock = none ∨ q.ownBlock ≠ p.2.ownBlock) ∨ (p.2.ownBlock = none ∨ p.2.ownBlock ≠ q.ownBlock) → q.ownBlock = none ∨ q.ownBlock ≠ p.2.ownBlock := fun q h => by
    rcases h with h | h
    · exact h
    · cases hq : q.ownBlock with
      | none => exact .inl rfl
      | some b =>
        refine .inr fun e => ?_
        rcases h with h | h
        · rw [h] at e; cases e
        · rw [hq] at h; exact h e.symm
  refine ⟨?_, fun q hq => ?_, ?_, h4, fun q hq => ?_⟩
  · rw [hl, ← ecells_pos]
    exact h1.kept hg (own_types h1 (h2 p hpm) (by decide))
  · simp only [List.mem_append, List.mem_cons] at hq
    rcases hq with hq | rfl | hq
    · exact (h2 q (by simp [hq])).kept hg (hne _ (.inl (hp.2.2 q hq p (by simp))))
    · exact hO
    · exact (h2 q (by simp [hq])).kept hg (hne _ (.inr (hp.2.1.1 q hq)))
  · rw [List.pairwise_append, List.pairwise_cons]
    exact ⟨hp.1, ⟨hp.2.1.1, hp.2.1.2⟩, fun a ha b hb => by
      simp only [List.mem_cons] at hb
      rcases hb with rfl | hb
      · exact hp.2.2 a ha p (by simp)
      · exact hp.2.2 a ha b (by simp [hb])⟩
  · simp only [List.mem_append, List.mem_cons] at hq
    rcases hq with hq | rfl | hq
    · exact h5 q (by simp [hq])
    · exact h5 p (by simp)
    · exact h5 q (by simp [hq])

def szE : List (M.Entry × Value) → Nat
  | [] => 0
  | p :: r => p.1.item.pos.length + 3 + szE r
theorem szE_append (P R : List (M.Entry × Value)) : szE (P ++ R) = szE P + szE R := by
  induction P with
  | nil => simp [szE]
  | cons p r ih => show _ + szE (r ++ R) = _; rw [ih]; simp [szE]; omega
def renLE (k : Int) : List (M.Entry × Value) → List (M.Entry × Value)
  | [] => []
  | p :: r => (⟨k, ⟨k + 1, ren (k + 1 + 1) p.1.item.pos.length, k + 1 + 1 + p.1.item.pos.length⟩⟩, p.2) :: renLE (k + (p.1.item.pos.length + 3 : Nat)) r
theorem renLE_length (L : List (M.Entry × Value)) : ∀ k, (renLE k L).length = L.length := by
  induction L with
  | nil => intro k; rfl
  | cons p r ih => intro k; show (renLE _ r).length + 1 = _; rw [ih]; rfl
theorem renLE_append (P R : List (M.Entry × Value)) : ∀ k, renLE k (P ++ R) = renLE k P ++ renLE (k + szE P) R := by
  induction P with
  | nil => intro k; simp [renLE, szE]
  | cons q r ih =>
    intro k
    show _ :: renLE _ (r ++ R) = _ :: (renLE _ r ++ _)
    rw [ih]
    have : k + ((q.1.item.pos.length + 3 : Nat) : Int) + (szE r : Int) = k + (szE (q :: r) : Int) := by simp [szE]; omega
    rw [this]
theorem renLE_snoc (P : List (M.Entry × Value)) (p : M.Entry × Value) : ∀ k, renLE k (P ++ [p]) = renLE k P ++ [(⟨k + szE P, ⟨k + szE P + 1, ren (k + szE P + 1 + 1) p.1.item.pos.length, k + szE P + 1 + 1 + p.1.item.pos.length⟩⟩, p.2)] := by
  induction P with
  | nil => intro k; simp [renLE, szE]
  | cons q r ih =>
    intro k
    show _ :: renLE _ (r ++ [p]) = _ :: (renLE _ r ++ _)
    rw [ih]
    have : k + ((q.1.item.pos.length + 3 : Nat) : Int) + (szE r : Int) = k + (szE (q :: r) : Int) := by simp [szE]; omega
    rw [this]

theorem szE_le (L : List (M.Entry × Value)) (h : ∀ p ∈ L, p.1.item.pos.length ≤ 1048576) : szE L ≤ L.length * 1048579 := by
  induction L with
  | nil => simp [szE]
  | cons p r ih =>
    have h1 := ih (fun q hq => h q (List.mem_cons_of_mem _ hq))
    have h2 := h p (by simp)
    show p.1.item.pos.length + 3 + szE r ≤ (r.length + 1) * 1048579
    omega

end Go.Proofs.Ytejbfmnioomkbaa
