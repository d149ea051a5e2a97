/- Plain laws of shards and moved keys. No program in sight. -/
import Derived.Test.YthohidhhhknnaaaPureS
namespace Go.Proofs.Ythohidhhhknnaaa
set_option linter.unusedVariables false
namespace M
theorem key_of_valid {x : Item} (h : validItem x = true) : 1 ≤ x.key ∧ x.key ≤ 99 := by
  unfold validItem at h
  simp only [Bool.and_eq_true] at h
  exact inR_true h.1.1
theorem sh_range {k s : Int} (h1 : 1 ≤ k) (h2 : k ≤ 99) (h3 : 1 ≤ s) (h4 : s ≤ 8) : 0 ≤ sh k s ∧ sh k s < s := by
  have a1 : 0 ≤ 389 * k % 1009 := by omega
  have a2 : 389 * k % 1009 ≤ 1008 := by omega
  unfold sh
  generalize 389 * k % 1009 = q at *
  obtain rfl | rfl | rfl | rfl | rfl | rfl | rfl | rfl : s = 1 ∨ s = 2 ∨ s = 3 ∨ s = 4 ∨ s = 5 ∨ s = 6 ∨ s = 7 ∨ s = 8 := by omega
  all_goals omega
theorem sh_one {k : Int} (h1 : 1 ≤ k) (h2 : k ≤ 99) : sh k 1 = 0 := by
  have := sh_range h1 h2 (s := 1) (by omega) (by omega)
  omega
theorem ShardItems_eq {L : List Item} {s n : Int} (hv : validStore L = true) (h1 : 1 ≤ s) (h2 : s ≤ 8) : ShardItems L s n = shardItems L s n := by
  unfold ShardItems; rw [if_pos ⟨hv, inR_of h1 h2⟩]
theorem ShardItems_none {L : List Item} {s n : Int} (hv : validStore L = true) (h1 : 1 ≤ s) (h2 : s ≤ 8) (hn : n < 0 ∨ s ≤ n) : ShardItems L s n = [] := by
  rw [ShardItems_eq hv h1 h2]
  unfold shardItems
  rw [List.filter_eq_nil_iff]
  intro x hx
  have hk := key_of_valid ((validStore_of hv).2.1 x hx)
  have := sh_range hk.1 hk.2 h1 h2
  simp
  omega
theorem ShardItems_all {L : List Item} (hv : validStore L = true) : ShardItems L 1 0 = L := by
  rw [ShardItems_eq hv (by omega) (by omega)]
  unfold shardItems
  rw [List.filter_eq_self]
  intro x hx
  have hk := key_of_valid ((validStore_of hv).2.1 x hx)
  simp [sh_one hk.1 hk.2]
theorem MovedKeys_same {L : List Item} {f : Int} : MovedKeys L f f = [] := by
  unfold MovedKeys
  split
  · unfold moved
    rw [List.map_eq_nil_iff, List.filter_eq_nil_iff]
    simp
  · rfl
theorem MovedKeys_flip (L : List Item) (f t : Int) : MovedKeys L t f = MovedKeys L f t := by
  unfold MovedKeys
  have e : moved L t f = moved L f t := by
    unfold moved
    congr 1
    refine List.filter_congr (fun x _ => ?_)
    rw [decide_eq_decide]
    exact ⟨fun h => h.symm, fun h => h.symm⟩
  rw [e]
  by_cases h : validStore L = true ∧ inR f 1 8 = true ∧ inR t 1 8 = true
  · rw [if_pos h, if_pos ⟨h.1, h.2.2, h.2.1⟩]
  · rw [if_neg h, if_neg (fun h' => h ⟨h'.1, h'.2.2, h'.2.1⟩)]
theorem shardOf_of {k s : Int} (h : 0 ≤ shardOf k s) : 1 ≤ k ∧ k ≤ 99 ∧ 1 ≤ s ∧ s ≤ 8 ∧ shardOf k s = sh k s := by
  unfold shardOf at h ⊢
  split at h
  · rename_i hc
    have a := inR_true hc.1
    have b := inR_true hc.2
    rw [if_pos hc]
    exact ⟨a.1, a.2, b.1, b.2, rfl⟩
  · omega
theorem shardOf_eq {k s : Int} (h1 : 1 ≤ k) (h2 : k ≤ 99) (h3 : 1 ≤ s) (h4 : s ≤ 8) : shardOf k s = sh k s := by
  unfold shardOf; rw [if_pos ⟨inR_of h1 h2, inR_of h3 h4⟩]
theorem mem_MovedKeys {L : List Item} {f t : Int} (hv : validStore L = true) (h1 : 1 ≤ f) (h2 : f ≤ 8) (h3 : 1 ≤ t) (h4 : t ≤ 8) {x : Item} (hx : x ∈ L) : x.key ∈ MovedKeys L f t ↔ sh x.key f ≠ sh x.key t := by
  unfold MovedKeys moved
  rw [if_pos ⟨hv, inR_of h1 h2, inR_of h3 h4⟩, List.mem_map]
  constructor
  · rintro ⟨y, hy, e⟩
    rw [List.mem_filter] at hy
    have := of_decide_eq_true hy.2
    rwa [e] at this
  · intro h
    exact ⟨x, List.mem_filter.2 ⟨hx, decide_eq_true h⟩, rfl⟩
theorem ShardItems_bad {L : List Item} {s n : Int} (h : validStore L = false ∨ s < 1 ∨ 8 < s) : ShardItems L s n = [] := by
  unfold ShardItems
  rw [if_neg]
  rintro ⟨h1, h2⟩
  rcases h with h | h
  · rw [h1] at h; cases h
  · have := inR_true h2; omega
theorem MovedKeys_bad {L : List Item} {f t : Int} (h : validStore L = false ∨ f < 1 ∨ 8 < f ∨ t < 1 ∨ 8 < t) : MovedKeys L f t = [] := by
  unfold MovedKeys
  rw [if_neg]
  rintro ⟨h1, h2, h3⟩
  rcases h with h | h
  · rw [h1] at h; cases h
  · have := inR_true h2; have := inR_true h3; omega
/-- how many items lie in the first k shards -/
def cnt (L : List Item) (s : Int) (k : Nat) : Nat := (L.filter fun x => decide (sh x.key s < (k : Int))).length
theorem filter_split {α : Type} (p q r : α → Bool) : ∀ L : List α, (∀ x ∈ L, r x = (p x || q x) ∧ (p x && q x) = false) → (L.filter r).length = (L.filter p).length + (L.filter q).length := by
  intro L
  induction L with
  | nil => intro _; rfl
  | cons a l ih =>
    intro h
    have h1 := h a (by simp)
    have h2 := ih (fun x hx => h x (by simp [hx]))
    cases hp : p a <;> cases hq : q a <;> simp [hp, hq] at h1 <;> simp [hp, hq, h1, h2] <;> omega
theorem cnt_succ (L : List Item) (s : Int) (k : Nat) : cnt L s (k + 1) = cnt L s k + (shardItems L s k).length := by
  unfold cnt shardItems
  refine filter_split _ _ _ L (fun x _ => ?_)
  constructor
  · rw [Bool.eq_iff_iff]; simp; omega
  · simp; omega
theorem cnt_zero {L : List Item} {s : Int} (hv : validStore L = true) (h1 : 1 ≤ s) (h2 : s ≤ 8) : cnt L s 0 = 0 := by
  unfold cnt
  rw [List.length_eq_zero_iff, List.filter_eq_nil_iff]
  intro x hx
  have hk := key_of_valid ((validStore_of hv).2.1 x hx)
  have := sh_range hk.1 hk.2 h1 h2
  simp
  omega
theorem cnt_all {L : List Item} {s : Nat} (hv : validStore L = true) (h1 : 1 ≤ s) (h2 : s ≤ 8) : cnt L s s = L.length := by
  unfold cnt
  congr 1
  rw [List.filter_eq_self]
  intro x hx
  have hk := key_of_valid ((validStore_of hv).2.1 x hx)
  have := sh_range hk.1 hk.2 (s := (s : Int)) (by omega) (by omega)
  simp
  omega
theorem keys_apart {L : List Item} (hv : validStore L = true) {i j : Nat} (hi : i < L.length) (hj : j < L.length) (h : j < i) : L[j].key < L[i].key := by
  have := (validStore_of hv).2.2
  rw [List.pairwise_map, List.pairwise_iff_getElem] at this
  exact this j i hj hi h
theorem valid_filter {L : List Item} (hv : validStore L = true) (p : Item → Bool) : validStore (L.filter p) = true := by
  obtain ⟨h1, h2, h3⟩ := validStore_of hv
  refine validStore_to (Nat.le_trans (List.length_filter_le _ _) h1) (fun x hx => h2 x (List.mem_filter.1 hx).1) ?_
  exact List.Pairwise.sublist (List.Sublist.map _ List.filter_sublist) h3
end M
end Go.Proofs.Ythohidhhhknnaaa
