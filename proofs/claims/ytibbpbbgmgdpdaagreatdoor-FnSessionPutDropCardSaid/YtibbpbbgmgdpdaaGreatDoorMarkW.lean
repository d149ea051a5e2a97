/- The walks of the marks: what is marked holds its numbers. -/
import Derived.Test.YtibbpbbgmgdpdaaGreatDoorExactW
namespace Go.Proofs.YtibbpbbgmgdpdaaGreatDoor
open Go.RowKit
set_option linter.unusedVariables false
set_option maxRecDepth 100000

def ren (k : Int) (n : Nat) : List Int := (List.range n).map fun i : Nat => k + (i : Int)
theorem ren_length (k : Int) (n : Nat) : (ren k n).length = n := by simp [ren]
theorem ren_succ (k : Int) (n : Nat) : ren k (n + 1) = ren k n ++ [k + n] := by simp [ren, List.range_succ]
theorem ren_at {k : Int} {n j : Nat} (h : j < n) : (ren k n)[j]? = some (k + j) := by
  rw [ren, List.getElem?_map, List.getElem?_range h]; rfl
theorem ren_set (kd : IntKind) (k : Int) (l : List Int) (j : Nat) (h : j < l.length) : ((ren k j ++ l.drop j).map (Value.int kd)).set j (.int kd (k + j)) = (ren k (j + 1) ++ l.drop (j + 1)).map (.int kd) := by
  rw [List.drop_eq_getElem_cons h, List.map_append, List.map_cons, List.set_append_right _ _ (by simp [ren_length]), List.length_map, ren_length, Nat.sub_self, List.set_cons_zero, ren_succ]
  simp only [List.map_append, List.map_cons, List.append_assoc, List.cons_append, List.nil_append]

theorem own_form' {w : World} {lo : Nat} {e : TypeId} {size n : Nat} {A : Option Addr} {c : Nat} {xs : List Value} (h : w.ownsRow lo e size (.slice A n c) n xs) (hn : 0 < n) : ∃ g, A = some ⟨g, 0, none⟩ ∧ lo ≤ g ∧ g < w.heap.size ∧ n ≤ c := by
  rcases h.2 with ⟨_, h0⟩ | ⟨g, cap, cur, hv, hg, hh, hnc, _⟩
  · omega
  · injection hv with h1 h2 h3
    subst h3
    exact ⟨g, h1, hg, lt_of_block hh, hnc⟩

/-- only the blocks from lo on, below hi, were written -/
structure Wrote (lo hi : Nat) (w w' : World) : Prop where
  os : w'.os = w.os
  tape : w'.tape = w.tape
  output : w'.output = w.output
  size : w.heap.size ≤ w'.heap.size
  block : ∀ k, k < w.heap.size → (k < lo ∨ hi ≤ k) → w'.heap[k]? = w.heap[k]?
theorem Wrote.refl (lo hi : Nat) (w : World) : Wrote lo hi w w := ⟨rfl, rfl, rfl, Nat.le_refl _, fun _ _ _ => rfl⟩
theorem Wrote.grown {lo hi : Nat} {a b c : World} {r : Option Nat} (h : Wrote lo hi a b) (k : b.grownBy c r) (hr : ∀ g, r = some g → lo ≤ g ∧ g < hi) : Wrote lo hi a c :=
  ⟨k.os.trans h.os, k.tape.trans h.tape, k.output.trans h.output, Nat.le_trans h.size k.size, fun i hi' hn => (k.block i (Nat.lt_of_lt_of_le hi' h.size) (fun e => by have := hr i e.symm; omega)).trans (h.block i hi' hn)⟩
theorem Wrote.gb {lo hi : Nat} {a b c : World} {r : Option Nat} (h : a.grownBy b r) (k : Wrote lo hi b c) (hl : a.heap.size ≤ lo) : a.grownBy c r :=
  ⟨k.os.trans h.os, k.tape.trans h.tape, k.output.trans h.output, Nat.le_trans h.size k.size, fun i hi hn => (k.block i (Nat.lt_of_lt_of_le hi h.size) (.inl (by omega))).trans (h.block i hi hn)⟩
theorem Wrote.above {lo hi : Nat} {b c : World} (k : Wrote lo hi b c) : Agree hi b.heap.size b c := fun i h1 h2 => k.block i h2 (.inr h1)
theorem Wrote.under {lo hi m : Nat} {b c : World} (k : Wrote lo hi b c) (hl : m ≤ lo) (hm : m ≤ b.heap.size) : Agree 0 m b c := fun i h1 h2 => k.block i (by omega) (.inl (by omega))

/-- items of the call's own, all their blocks from lo on, below hi -/
def OwnLV (w : World) (lo hi : Nat) (v : Value) (LV : List (M.Item × Value)) : Prop :=
  w.ownsRow lo 59 3 v LV.length (cellsI LV) ∧ (∀ p ∈ LV, OwnInts .i64 3 w lo p.2 p.1.pos) ∧ LV.Pairwise (fun p q => p.2.ownBlock = none ∨ p.2.ownBlock ≠ q.2.ownBlock) ∧
    (∀ b, v.ownBlock = some b → b < hi) ∧ (∀ p ∈ LV, ∀ b, p.2.ownBlock = some b → b < hi)
theorem OwnItems.lv {w : World} {lo : Nat} {v : Value} {L : List M.Item} (h : OwnItems w lo v L) : ∃ LV, LV.map (·.1) = L ∧ OwnLV w lo w.heap.size v LV := by
  obtain ⟨LV, h1, h2, h3, h4⟩ := h
  exact ⟨LV, h1, h2, h3, h4, fun b hb => (h2.lt b hb).2, fun p hp b hb => ((h3 p hp).lt b hb).2⟩
theorem OwnLV.items {w : World} {lo hi : Nat} {v : Value} {LV : List (M.Item × Value)} (h : OwnLV w lo hi v LV) : OwnItems w lo v (LV.map (·.1)) := ⟨LV, rfl, h.1, h.2.1, h.2.2.1⟩
theorem own_agree {w w' : World} {lo hi size n : Nat} {e : TypeId} {v : Value} {xs : List Value} (h : w.ownsRow lo e size v n xs) (hb : ∀ b, v.ownBlock = some b → b < hi) (ha : Agree lo hi w w') : w'.ownsRow lo e size v n xs := by
  refine ⟨h.1, ?_⟩
  rcases h.2 with h0 | ⟨g, cap, cur, hv, hg, hh, r⟩
  · exact .inl h0
  · exact .inr ⟨g, cap, cur, hv, hg, (ha g hg (hb g (by rw [hv]; rfl))).trans hh, r⟩
theorem OwnLV.agree {w w' : World} {lo hi : Nat} {v : Value} {LV : List (M.Item × Value)} (h : OwnLV w lo hi v LV) (ha : Agree lo hi w w') : OwnLV w' lo hi v LV :=
  ⟨own_agree h.1 h.2.2.2.1 ha, fun p hp => own_agree (h.2.1 p hp) (h.2.2.2.2 p hp) ha, h.2.2⟩

theorem own_types {w : World} {lo lo' size size' n n' : Nat} {e e' : TypeId} {v v' : Value} {xs xs' : List Value} (h : w.ownsRow lo e size v n xs) (h' : w.ownsRow lo' e' size' v' n' xs') (hne : e ≠ e') : v.ownBlock = none ∨ v.ownBlock ≠ v'.ownBlock := by
  rcases h.2 with ⟨rfl, _⟩ | ⟨g, cap, cur, rfl, _, hh, _⟩
  · exact .inl rfl
  · refine .inr fun e1 => ?_
    rcases h'.2 with ⟨rfl, _⟩ | ⟨g', cap', cur', rfl, _, hh', _⟩
    · simp [Value.ownBlock] at e1
    · simp only [Value.ownBlock, Option.some.injEq] at e1
      subst e1
      rw [hh] at hh'
      injection hh' with h3
      injection h3 with _ h4
      exact hne h4

theorem cells_set0 (P R : List (M.Item × Value)) (p : M.Item × Value) (x : Int) : (cellsI (P ++ p :: R)).set (P.length * 3) (.int .i64 x) = cellsI (P ++ ({ p.1 with key := x }, p.2) :: R) := by
  rw [cellsI_append, cellsI_append, List.set_append_right _ _ (by rw [cellsI_length]; exact Nat.le_refl _), cellsI_length, Nat.sub_self]
  rfl
theorem cells_set2 (P R : List (M.Item × Value)) (p : M.Item × Value) (x : Int) : (cellsI (P ++ p :: R)).set (P.length * 3 + 2) (.int .i64 x) = cellsI (P ++ ({ p.1 with tags := x }, p.2) :: R) := by
  rw [cellsI_append, cellsI_append, List.set_append_right _ _ (by rw [cellsI_length]; omega), cellsI_length, show P.length * 3 + 2 - P.length * 3 = 2 from by omega]
  rfl
theorem cells_pos (P R : List (M.Item × Value)) (p : M.Item × Value) (l : List Int) : cellsI (P ++ p :: R) = cellsI (P ++ ({ p.1 with pos := l }, p.2) :: R) := by
  rw [cellsI_append, cellsI_append]
  rfl

theorem OwnLV.set_ {w : World} {lo hi g cap : Nat} {n : Nat} {P R : List (M.Item × Value)} {p : M.Item × Value} (h : OwnLV w lo hi (.slice (some ⟨g, 0, none⟩) n cap) (P ++ p :: R)) (hn : n = (P ++ p :: R).length)
    {y : M.Item} (hy : y.pos = p.1.pos) {i : Nat} {u : Value} (hc : (cellsI (P ++ p :: R)).set i u = cellsI (P ++ (y, p.2) :: R)) :
    OwnLV (w.setCell ⟨g, i, none⟩ u) lo hi (.slice (some ⟨g, 0, none⟩) n cap) (P ++ (y, p.2) :: R) ∧ w.grownBy (w.setCell ⟨g, i, none⟩ u) (some g) := by
  subst hn
  obtain ⟨h1, h2, h3, h4, h5⟩ := h
  have hs := h1.stored i u
  rw [hc] at hs
  have hl : (P ++ (y, p.2) :: R).length = (P ++ p :: R).length := by simp
  refine ⟨⟨by rw [hl]; exact hs.1, fun q hq => ?_, ?_, h4, fun q hq => ?_⟩, hs.2⟩
  · have hq' : ∃ q' ∈ P ++ p :: R, q'.2 = q.2 ∧ q'.1.pos = q.1.pos := by
      simp only [List.mem_append, List.mem_cons] at hq ⊢
      rcases hq with hq | rfl | hq
      · exact ⟨q, .inl hq, rfl, rfl⟩
      · exact ⟨p, .inr (.inl rfl), rfl, hy.symm⟩
      · exact ⟨q, .inr (.inr hq), rfl, rfl⟩
    obtain ⟨q', hm, e1, e2⟩ := hq'
    have hO := h2 q' hm
    rw [e1, e2] at hO
    refine hO.kept hs.2 ?_
    have := own_types hO h1 (by decide)
    simpa [Value.ownBlock] using this
  · rw [List.pairwise_append, List.pairwise_cons] at h3 ⊢
    exact ⟨h3.1, ⟨h3.2.1.1, h3.2.1.2⟩, fun a ha b hb => by
      simp only [List.mem_cons] at hb
      rcases hb with rfl | hb
      · exact h3.2.2 a ha p (by simp)
      · exact h3.2.2 a ha b (by simp [hb])⟩
  · simp only [List.mem_append, List.mem_cons] at hq
    rcases hq with hq | rfl | hq
    · exact h5 q (by simp [hq])
    · exact h5 p (by simp)
    · exact h5 q (by simp [hq])

theorem OwnLV.pos_ {w w' : World} {lo hi : Nat} {v : Value} {P R : List (M.Item × Value)} {p : M.Item × Value} (h : OwnLV w lo hi v (P ++ p :: R)) {l : List Int} (hO : OwnInts .i64 3 w' lo p.2 l) (hg : w.grownBy w' p.2.ownBlock) :
    OwnLV w' lo hi v (P ++ ({ p.1 with pos := l }, p.2) :: R) := by
  obtain ⟨h1, h2, h3, h4, h5⟩ := h
  have hpm : p ∈ P ++ p :: R := by simp
  have hl : (P ++ (({ p.1 with pos := l } : M.Item), p.2) :: R).length = (P ++ p :: R).length := by simp
  have hp := h3
  rw [List.pairwise_append, List.pairwise_cons] at hp
  have hne : ∀ q : Value, (q.ownBlock = none ∨ q.ownBlock ≠ p.2.ownBlock) ∨ (p.2.ownBlock = none ∨ p.2.ownBlock ≠ q.ownBlock) → q.ownBlock = none ∨ q.ownBlock ≠ p.2.ownBlock := fun q h => by
    rcases h with h | h
    · exact h
    · cases hq : q.ownBlock with
      | none => exact .inl rfl
      | some b =>
        refine .inr fun e => ?_
        rcases h with h | h
        · rw [h] at e; cases e
        · rw [hq] at h; exact h e.symm
  refine ⟨?_, fun q hq => ?_, ?_, h4, fun q hq => ?_⟩
  · rw [hl, ← cells_pos]
    exact h1.kept hg (own_types h1 (h2 p hpm) (by decide))
  · simp only [List.mem_append, List.mem_cons] at hq
    rcases hq with hq | rfl | hq
    · exact (h2 q (by simp [hq])).kept hg (hne _ (.inl (hp.2.2 q hq p (by simp))))
    · exact hO
    · exact (h2 q (by simp [hq])).kept hg (hne _ (.inr (hp.2.1.1 q hq)))
  · rw [List.pairwise_append, List.pairwise_cons]
    exact ⟨hp.1, ⟨hp.2.1.1, hp.2.1.2⟩, fun a ha b hb => by
      simp only [List.mem_cons] at hb
      rcases hb with rfl | hb
      · exact hp.2.2 a ha p (by simp)
      · exact hp.2.2 a ha b (by simp [hb])⟩
  · simp only [List.mem_append, List.mem_cons] at hq
    rcases hq with hq | rfl | hq
    · exact h5 q (by simp [hq])
    · exact h5 p (by simp)
    · exact h5 q (by simp [hq])

def szI : List (M.Item × Value) → Nat
  | [] => 0
  | p :: r => p.1.pos.length + 2 + szI r
theorem szI_append (P R : List (M.Item × Value)) : szI (P ++ R) = szI P + szI R := by
  induction P with
  | nil => simp [szI]
  | cons p r ih => show _ + szI (r ++ R) = _; rw [ih]; simp [szI]; omega
def renLV (k : Int) : List (M.Item × Value) → List (M.Item × Value)
  | [] => []
  | p :: r => (⟨k, ren (k + 1) p.1.pos.length, k + 1 + p.1.pos.length⟩, p.2) :: renLV (k + (p.1.pos.length + 2 : Nat)) r
theorem renLV_length (L : List (M.Item × Value)) : ∀ k, (renLV k L).length = L.length := by
  induction L with
  | nil => intro k; rfl
  | cons p r ih => intro k; show (renLV _ r).length + 1 = _; rw [ih]; rfl
theorem renLV_append (P R : List (M.Item × Value)) : ∀ k, renLV k (P ++ R) = renLV k P ++ renLV (k + szI P) R := by
  induction P with
  | nil => intro k; simp [renLV, szI]
  | cons q r ih =>
    intro k
    show _ :: renLV _ (r ++ R) = _ :: (renLV _ r ++ _)
    rw [ih]
    have : k + ((q.1.pos.length + 2 : Nat) : Int) + (szI r : Int) = k + (szI (q :: r) : Int) := by simp [szI]; omega
    rw [this]
theorem renLV_snoc (P : List (M.Item × Value)) (p : M.Item × Value) : ∀ k, renLV k (P ++ [p]) = renLV k P ++ [(⟨k + szI P, ren (k + szI P + 1) p.1.pos.length, k + szI P + 1 + p.1.pos.length⟩, p.2)] := by
  induction P with
  | nil => intro k; simp [renLV, szI]
  | cons q r ih =>
    intro k
    show _ :: renLV _ (r ++ [p]) = _ :: (renLV _ r ++ _)
    rw [ih]
    have : k + ((q.1.pos.length + 2 : Nat) : Int) + (szI r : Int) = k + (szI (q :: r) : Int) := by simp [szI]; omega
    rw [this]

theorem szI_le (L : List (M.Item × Value)) (h : ∀ p ∈ L, p.1.pos.length ≤ 1048576) : szI L ≤ L.length * 1048578 := by
  induction L with
  | nil => simp [szI]
  | cons p r ih =>
    have h1 := ih (fun q hq => h q (List.mem_cons_of_mem _ hq))
    have h2 := h p (by simp)
    show p.1.pos.length + 2 + szI r ≤ (r.length + 1) * 1048578
    omega

end Go.Proofs.YtibbpbbgmgdpdaaGreatDoor
