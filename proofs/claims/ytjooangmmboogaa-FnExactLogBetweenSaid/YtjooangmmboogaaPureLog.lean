/- Short logs as plain functions, and their plain laws. No program in sight. -/
import Derived.Test.YtjooangmmboogaaPurePut
namespace Go.Proofs.Ytjooangmmboogaa
set_option linter.unusedVariables false
namespace M
def keyB (e x : Entry) : Bool := x.item.key == e.item.key
/-- does no later entry have the key of the entry at place i? -/
def keepAt (L : List Entry) (i : Nat) : Bool := match L[i]? with | some e => !(L.drop (i + 1)).any (keyB e) | none => false
def shortTo (L : List Entry) : Nat → List Entry
  | 0 => []
  | k + 1 => shortTo L k ++ (if keepAt L k = true then (L[k]?).toList else [])
def short (L : List Entry) : List Entry := shortTo L L.length
def ShortLog (L : List Entry) : List Entry := if validLog L = true then short L else []
theorem keepAt_eq {L : List Entry} {k : Nat} (hk : k < L.length) : keepAt L k = !(L.drop (k + 1)).any (keyB L[k]) := by
  unfold keepAt; rw [List.getElem?_eq_getElem hk]
theorem shortTo_succ {L : List Entry} {k : Nat} (hk : k < L.length) : shortTo L (k + 1) = shortTo L k ++ (if (L.drop (k + 1)).any (keyB L[k]) = true then [] else [L[k]]) := by
  show shortTo L k ++ _ = _
  rw [keepAt_eq hk, List.getElem?_eq_getElem hk]
  cases (L.drop (k + 1)).any (keyB L[k]) <;> simp
theorem shortTo_sub (L : List Entry) : ∀ k, (shortTo L k).Sublist (L.take k) := by
  intro k
  induction k with
  | zero => simp [shortTo]
  | succ k ih =>
    show (shortTo L k ++ _).Sublist _
    rw [List.take_add_one]
    refine List.Sublist.append ih ?_
    split
    · exact List.Sublist.refl _
    · exact List.nil_sublist _
theorem short_sub (L : List Entry) : (short L).Sublist L := by
  have := shortTo_sub L L.length
  rwa [List.take_length] at this
theorem shortTo_len (L : List Entry) (k : Nat) : (shortTo L k).length ≤ k := by
  have := (shortTo_sub L k).length_le
  rw [List.length_take] at this
  omega
/-- a recursive form -/
def shortR : List Entry → List Entry
  | [] => []
  | e :: r => if r.any (keyB e) = true then shortR r else e :: shortR r
theorem shortTo_cons (e : Entry) (r : List Entry) : ∀ k, shortTo (e :: r) (k + 1) = (if r.any (keyB e) = true then [] else [e]) ++ shortTo r k := by
  intro k
  induction k with
  | zero =>
    rw [shortTo_succ (by simp)]
    simp [shortTo]
  | succ k ih =>
    show shortTo (e :: r) (k + 1) ++ _ = _
    rw [ih]
    show _ = _ ++ (shortTo r k ++ _)
    rw [List.append_assoc]
    congr 2
theorem short_cons (e : Entry) (r : List Entry) : short (e :: r) = (if r.any (keyB e) = true then [] else [e]) ++ short r := shortTo_cons e r r.length
theorem short_eq : ∀ L, short L = shortR L := by
  intro L
  induction L with
  | nil => rfl
  | cons e r ih =>
    rw [short_cons, ih]
    show _ = if _ then _ else _
    split <;> simp
theorem short_keys {L : List Entry} {k : Int} : (∃ e ∈ short L, e.item.key = k) ↔ ∃ e ∈ L, e.item.key = k := by
  rw [short_eq]
  induction L with
  | nil => simp [shortR]
  | cons e r ih =>
    unfold shortR
    split
    · rename_i h
      rw [ih]
      constructor
      · rintro ⟨x, hx, h2⟩; exact ⟨x, by simp [hx], h2⟩
      · rintro ⟨x, hx, h2⟩
        simp only [List.mem_cons] at hx
        rcases hx with rfl | hx
        · rw [List.any_eq_true] at h
          obtain ⟨y, hy, h3⟩ := h
          exact ⟨y, hy, by have := beq_iff_eq.1 h3; omega⟩
        · exact ⟨x, hx, h2⟩
    · constructor
      · rintro ⟨x, hx, h2⟩
        simp only [List.mem_cons] at hx
        rcases hx with rfl | hx
        · exact ⟨x, by simp, h2⟩
        · obtain ⟨y, hy, h3⟩ := ih.1 ⟨x, hx, h2⟩
          exact ⟨y, by simp [hy], h3⟩
      · rintro ⟨x, hx, h2⟩
        simp only [List.mem_cons] at hx
        rcases hx with rfl | hx
        · exact ⟨x, by simp, h2⟩
        · obtain ⟨y, hy, h3⟩ := ih.2 ⟨x, hx, h2⟩
          exact ⟨y, by simp [hy], h3⟩
theorem short_apart (L : List Entry) : (short L).Pairwise (fun a b => a.item.key ≠ b.item.key) := by
  rw [short_eq]
  induction L with
  | nil => exact List.Pairwise.nil
  | cons e r ih =>
    unfold shortR
    split
    · exact ih
    · rename_i h
      refine List.Pairwise.cons (fun x hx hk => h ?_) ih
      obtain ⟨y, hy, h3⟩ := (short_keys (L := r) (k := e.item.key)).1 ⟨x, by rw [short_eq]; exact hx, hk.symm⟩
      exact List.any_eq_true.2 ⟨y, hy, beq_iff_eq.2 h3⟩
theorem short_same {L : List Entry} (h : L.Pairwise (fun a b => a.item.key ≠ b.item.key)) : short L = L := by
  rw [short_eq]
  induction L with
  | nil => rfl
  | cons e r ih =>
    rw [List.pairwise_cons] at h
    unfold shortR
    rw [if_neg, ih h.2]
    intro h9
    obtain ⟨y, hy, h3⟩ := List.any_eq_true.1 h9
    exact h.1 y hy (beq_iff_eq.1 h3).symm
theorem valid_sub {L L' : List Entry} (h : validLog L = true) (hs : L'.Sublist L) : validLog L' = true := by
  unfold validLog at h ⊢
  simp only [Bool.and_eq_true, List.all_eq_true, decide_eq_true_eq] at h ⊢
  exact ⟨fun x hx => h.1 x (hs.subset hx), by have := hs.length_le; omega⟩
theorem short_short (L : List Entry) : short (short L) = short L := short_same (short_apart L)
end M
end Go.Proofs.Ytjooangmmboogaa
