/- Items, stores and logs as plain functions. No program in sight. -/
import Derived.Test.YtjooangmmboogaaPure
namespace Go.Proofs.Ytjooangmmboogaa
namespace M

def isVec (l : List Int) : Bool := l.all (fun x => inR x (-100) 100) && decide (l.length = 4)
def validItem (x : Item) : Bool := inR x.key 1 99 && isVec x.pos && inR x.tags 0 15
/-- the item at place j is valid and behind the one ahead of it -/
def okAt (L : List Item) (j : Nat) : Bool :=
  match L[j]?, L[j - 1]? with
  | some x, some y => validItem x && (j == 0 || decide (y.key < x.key))
  | _, _ => true
def okTo (L : List Item) (k : Nat) : Bool := (List.range k).all (okAt L)
def validStore (L : List Item) : Bool := okTo L L.length && decide (L.length ≤ 16)

theorem okTo_succ (L : List Item) (k : Nat) : okTo L (k + 1) = (okTo L k && okAt L k) := by
  unfold okTo
  rw [List.range_succ, List.all_append]
  simp
theorem okTo_stop {L : List Item} {k : Nat} (hk : k < L.length) (h : okAt L k = false) : validStore L = false := by
  have : okTo L L.length = false := by
    unfold okTo
    rw [List.all_eq_false]
    exact ⟨k, by simpa using hk, by simp [h]⟩
  simp [validStore, this]
theorem okAt_eq {L : List Item} {k : Nat} (hk : k < L.length) : okAt L k = (validItem L[k] && (k == 0 || decide ((L[k - 1]'(by omega)).key < L[k].key))) := by
  unfold okAt
  rw [List.getElem?_eq_getElem hk, List.getElem?_eq_getElem (show k - 1 < L.length by omega)]
theorem validStore_of {L : List Item} (h : validStore L = true) : L.length ≤ 16 ∧ (∀ x ∈ L, validItem x = true) ∧ (L.map Item.key).Pairwise (· < ·) := by
  unfold validStore okTo at h
  simp only [Bool.and_eq_true, List.all_eq_true, List.mem_range, decide_eq_true_eq] at h
  obtain ⟨h1, h2⟩ := h
  have hv : ∀ k (hk : k < L.length), validItem L[k] = true := fun k hk => by
    have := h1 k hk
    rw [okAt_eq hk] at this
    simp only [Bool.and_eq_true] at this
    exact this.1
  have hs : ∀ k (hk : k + 1 < L.length), (L[k]'(by omega)).key < L[k + 1].key := fun k hk => by
    have := h1 (k + 1) hk
    rw [okAt_eq hk] at this
    simp only [Bool.and_eq_true, Bool.or_eq_true] at this
    rcases this.2 with h0 | h0
    · simp at h0
    · exact of_decide_eq_true h0
  refine ⟨h2, fun x hx => ?_, ?_⟩
  · obtain ⟨k, hk, rfl⟩ := List.getElem_of_mem hx
    exact hv k hk
  · have hm : ∀ d i (hi : i + d + 1 < L.length), (L[i]'(by omega)).key < (L[i + d + 1]'hi).key := by
      intro d
      induction d with
      | zero => intro i hi; exact hs i hi
      | succ d ih =>
        intro i hi
        have h3 := ih i (by omega)
        have h4 := hs (i + d + 1) hi
        have h5 : i + (d + 1) + 1 = i + d + 1 + 1 := by omega
        simp only [h5]
        omega
    rw [List.pairwise_iff_getElem]
    intro i j hi hj hij
    simp only [List.length_map] at hi hj
    rw [List.getElem_map, List.getElem_map]
    have := hm (j - i - 1) i (by omega)
    have h5 : i + (j - i - 1) + 1 = j := by omega
    simp only [h5] at this
    exact this
theorem validStore_to {L : List Item} (h1 : L.length ≤ 16) (h2 : ∀ x ∈ L, validItem x = true) (h3 : (L.map Item.key).Pairwise (· < ·)) : validStore L = true := by
  unfold validStore okTo
  simp only [Bool.and_eq_true, List.all_eq_true, List.mem_range, decide_eq_true_eq]
  refine ⟨fun k hk => ?_, h1⟩
  rw [okAt_eq hk]
  rw [h2 _ (List.getElem_mem hk)]
  rcases Nat.eq_zero_or_pos k with h0 | h0
  · subst h0; rfl
  · rw [List.pairwise_iff_getElem] at h3
    have := h3 (k - 1) k (by simp; omega) (by simpa using hk) (by omega)
    rw [List.getElem_map, List.getElem_map] at this
    simp [this]
theorem validStore_iff {L : List Item} : validStore L = true ↔ L.length ≤ 16 ∧ (∀ x ∈ L, validItem x = true) ∧ (L.map Item.key).Pairwise (· < ·) :=
  ⟨validStore_of, fun h => validStore_to h.1 h.2.1 h.2.2⟩

def shardItems (L : List Item) (s n : Int) : List Item := L.filter fun x => decide (sh x.key s = n)
def ShardItems (L : List Item) (s n : Int) : List Item := if validStore L = true ∧ inR s 1 8 = true then shardItems L s n else []
def moved (L : List Item) (f t : Int) : List Int := (L.filter fun x => decide (sh x.key f ≠ sh x.key t)).map Item.key
def MovedKeys (L : List Item) (f t : Int) : List Int := if validStore L = true ∧ inR f 1 8 = true ∧ inR t 1 8 = true then moved L f t else []

def validEntry (e : Entry) : Bool :=
  if e.kind = 2 then inR e.item.key 1 99 && decide (e.item.pos.length = 0) && decide (e.item.tags = 0)
  else decide (e.kind = 1) && validItem e.item
def validLog (l : List Entry) : Bool := l.all validEntry && decide (l.length ≤ 32)

end M
end Go.Proofs.Ytjooangmmboogaa
