/- Plain laws of shards and moved keys. No program in sight. -/
import Derived.Test.YthohidhhhknnaaaPureS
namespace Go.Proofs.Ythohidhhhknnaaa
set_option linter.unusedVariables false
namespace M
theorem key_of_valid {x : Item} (h : validItem x = true) : 1 ≤ x.key ∧ x.key ≤ 99 := by
  unfold validItem at h
  simp only [Bool.and_eq_true] at h
  exact inR_true h.1.1
theorem sh_range {k s : Int} (h1 : 1 ≤ k) (h2 : k ≤ 99) (h3 : 1 ≤ s) (h4 : s ≤ 8) : 0 ≤ sh k s ∧ sh k s < s := by
  have a1 : 0 ≤ 389 * k % 1009 := by omega
  have a2 : 389 * k % 1009 ≤ 1008 := by omega
  unfold sh
  generalize 389 * k % 1009 = q at *
  obtain rfl | rfl | rfl | rfl | rfl | rfl | rfl | rfl : s = 1 ∨ s = 2 ∨ s = 3 ∨ s = 4 ∨ s = 5 ∨ s = 6 ∨ s = 7 ∨ s = 8 := by omega
  all_goals omega
theorem sh_one {k : Int} (h1 : 1 ≤ k) (h2 : k ≤ 99) : sh k 1 = 0 := by
  have := sh_range h1 h2 (s := 1) (by omega) (by omega)
  omega
theorem ShardItems_eq {L : List Item} {s n : Int} (hv : validStore L = true) (h1 : 1 ≤ s) (h2 : s ≤ 8) : ShardItems L s n = shardItems L s n := by
  unfold ShardItems; rw [if_pos ⟨hv, inR_of h1 h2⟩]
theorem ShardItems_none {L : List Item} {s n : Int} (hv : validStore L = true) (h1 : 1 ≤ s) (h2 : s ≤ 8) (hn : n < 0 ∨ s ≤ n) : ShardItems L s n = [] := by
  rw [ShardItems_eq hv h1 h2]
  unfold shardItems
  rw [List.filter_eq_nil_iff]
  intro x hx
  have hk := key_of_valid ((validStore_of hv).2.1 x hx)
  have := sh_range hk.1 hk.2 h1 h2
  simp
  omega
theorem ShardItems_all {L : List Item} (hv : validStore L = true) : ShardItems L 1 0 = L := by
  rw [ShardItems_eq hv (by omega) (by omega)]
  unfold shardItems
  rw [List.filter_eq_self]
  intro x hx
  have hk := key_of_valid ((validStore_of hv).2.1 x hx)
  simp [sh_one hk.1 hk.2]
theorem MovedKeys_same {L : List Item} {f : Int} : MovedKeys L f f = [] := by
  unfold MovedKeys
  split
  · unfold moved
    rw [List.map_eq_nil_iff, List.filter_eq_nil_iff]
    simp
  · rfl
theorem MovedKeys_flip (L : List Item) (f t : Int) : MovedKeys L t f = MovedKeys L f t := by
  unfold MovedKeys
  have e : moved L t f = moved L f t := by
    unfold moved
    congr 1
    refine List.filter_congr (fun x _ => ?_)
    rw [decide_eq_decide]
    exact ⟨fun h => h.symm, fun h => h.symm⟩
  rw [e]
  by_cases h : validStore L = true ∧ inR f 1 8 = true ∧ inR t 1 8 = true
  · rw [if_pos h, if_pos ⟨h.1, h.2.2, h.2.1⟩]
  · rw [if_neg h, if_neg (fun h' => h ⟨h'.1, h'.2.2, h'.2.1⟩)]
theorem shardOf_of {k s : Int} (h : 0 ≤ shardOf k s) : 1 ≤ k ∧ k ≤ 99 ∧ 1 ≤ s ∧ s ≤ 8 ∧ shardOf k s = sh k s := by
  unfold shardOf at h ⊢
  split at h
  · rename_i hc
    have a := inR_true hc.1
    have b := inR_true hc.2
    rw [if_pos hc]
    exact ⟨a.1, a.2, b.1, b.2, rfl⟩
  · omega
theorem shardOf_eq {k s : Int} (h1 : 1 ≤ k) (h2 : k ≤ 99) (h3 : 1 ≤ s) (h4 : s ≤ 8) : shardOf k s = sh k s := by
  unfold shardOf; rw [if_pos ⟨inR_of h1 h2, inR_of h3 h4⟩]
theorem mem_MovedKeys {L : List Item} {f t : Int} (hv : validStore L = true) (h1 : 1 ≤ f) (h2 : f ≤ 8) (h3 : 1 ≤ t) (h4 : t ≤ 8) {x : Item} (hx : x ∈ L) : x.key ∈ MovedKeys L f t ↔ sh x.key f ≠ sh x.key t := by
  unfold MovedKeys moved
  rw [if_pos ⟨hv, inR_of h1 h2, inR_of h3 h4⟩, List.mem_map]
  constructor
  · rintro ⟨y, hy, e⟩
    rw [List.mem_filter] at hy
    have := of_decide_eq_true hy.2
    rwa [e] at this
  · intro h
    exact ⟨x, List.mem_filter.2 ⟨hx, decide_eq_true h⟩, rfl⟩
theorem ShardItems_bad {L : List Item} {s n : Int} (h : validStore L = false ∨ s < 1 ∨ 8 < s) : ShardItems L s n = [] := by
  unfold ShardItems
  rw [if_neg]
  rintro ⟨h1, h2⟩
  rcases h with h | h
  · rw [h1] at h; cases h
  · have := inR_true h2; omega
theorem MovedKeys_bad {L : List Item} {f t : Int} (h : validStore L = false ∨ f < 1 ∨ 8 < f ∨ t < 1 ∨ 8 < t) : MovedKeys L f t = [] := by
  unfold MovedKeys
  rw [if_neg]
  rintro ⟨h1, h2, h3⟩
  rcases h with h | h
  · rw [h1] at h; cases h
  · have := inR_true h2; have := inR_true h3; omega
end M
end Go.Proofs.Ythohidhhhknnaaa
