/- The walks of the items of a shard. -/
import Derived.Test.YtibbpbbgmgdpdaaGreatDoorCopyW
namespace Go.Proofs.YtibbpbbgmgdpdaaGreatDoor
open Go.RowKit
set_option linter.unusedVariables false
set_option maxRecDepth 100000

theorem info_item' : (Tryz.prog.info? 59).map (fun i => (i.zero, i.size, i.bytes)) = some (some (.agg #[.int .i64 0, .slice none 0 0, .int .i64 0]), 3, 40) := by kernel_rfl
theorem key_range' {x : M.Item} (h : M.validItem x = true) : 1 ≤ x.key ∧ x.key ≤ 99 := by
  unfold M.validItem at h
  simp only [Bool.and_eq_true] at h
  exact M.inR_true h.1.1
theorem three_cell_at {w : World} {t : TypeId} {x y z : Value} {g : Nat} (hg : g = w.heap.size) : ∀ (j : Nat) (u : Value), [x, y, z][j]? = some u → (w.alloc (.cells #[x, y, z] t)).cell? ((⟨g, 0, none⟩ : Addr).add j) = some u := by
  subst hg
  intro j u hu
  rw [Addr.add_lit, Nat.zero_add, cell_of_row _ _ _ #[x, y, z] t (0, 0) (heap_alloc_new w _)]
  simpa using hu
theorem item_oneCell {k t : Int} {A : Option Addr} {n c : Nat} : ∀ u ∈ [Value.int .i64 k, Value.slice A n c, Value.int .i64 t], u.oneCell' = true := by
  intro u hu
  simp at hu
  rcases hu with rfl | rfl | rfl <;> rfl
theorem push_step {wr w1 w2 w4 : World} {B : Nat} {v v' u : Value} {LV : List (M.Item × Value)} {y : M.Item} (hO : wr.ownsRow B 59 3 v LV.length (cellsI LV)) (hI : ∀ p ∈ LV, OwnInts .i64 3 wr B p.2 p.1.pos)
    (hP : LV.Pairwise (fun p q => p.2.ownBlock = none ∨ p.2.ownBlock ≠ q.2.ownBlock)) (h1 : wr.grownBy w1 none) (hc : OwnInts .i64 3 w1 wr.heap.size u y.pos) (hB : B ≤ wr.heap.size) (h12 : w1.grownBy w2 none)
    (T1 : w4.ownsRow B 59 3 v' (LV.length + 1) (cellsI LV ++ [.int .i64 y.key, u, .int .i64 y.tags])) (T2 : w2.grownBy w4 v.ownBlock) : OwnItems w4 B v' (LV.map (·.1) ++ [y]) := by
  have hv2 : w2.ownsRow B 59 3 v LV.length (cellsI LV) := (hO.kept h1 (own_ge hO (by simp))).kept h12 (own_ge hO (by simp))
  refine OwnItems.push (p := (y, u)) (by rw [cellsI_one]; exact T1) (fun q hq => ?_) hP ?_ (fun q hq => ?_)
  · have h := ((hI q hq).grown h1 (by simp)).grown h12 (by simp)
    exact h.kept T2 (own_types' h hv2)
  · have h := (hc.grown h12 (by simp)).wide hB
    exact h.kept T2 (own_types' h hv2)
  · cases hb : q.2.ownBlock with
    | none => exact .inl rfl
    | some b =>
      refine .inr fun e => ?_
      have a1 := ((hI q hq).lt b hb).2
      have a2 := (hc.lt b e.symm).1
      omega

theorem shardItems_take {L : List M.Item} {k : Nat} (hk : k < L.length) (s n : Int) : M.shardItems (L.take (k + 1)) s n = M.shardItems (L.take k) s n ++ (if M.sh L[k].key s = n then [L[k]] else []) := by
  unfold M.shardItems
  rw [List.take_succ_eq_append_getElem hk, List.filter_append]
  congr 1
  by_cases h : M.sh L[k].key s = n
  · simp [h]
  · simp [h]
theorem shardItems_mem {L : List M.Item} {s n : Int} {x : M.Item} (h : x ∈ M.shardItems L s n) : x ∈ L := (List.mem_filter.1 h).1
theorem shardItems_le (L : List M.Item) (s n : Int) : (M.shardItems L s n).length ≤ L.length := List.length_filter_le _ _

/-- a row of the call's own, the vectors elsewhere -/
theorem semi_rd {w : World} {B lo hi : Nat} {v : Value} {LV : List (M.Item × Value)} (h2 : w.ownsRow B 59 3 v LV.length (cellsI LV)) (h3 : ∀ p ∈ LV, RdInts .i64 w lo hi p.2 p.1.pos) (hh : hi ≤ w.heap.size) : RdItems w 0 w.heap.size v (LV.map (·.1)) := by
  rcases h2.2 with ⟨rfl, hn⟩ | ⟨g, cap, cur, rfl, hg, hb, hnc, hcm, hcs, htake⟩
  · have hl : LV = [] := List.eq_nil_of_length_eq_zero hn
    subst hl
    exact ⟨none, 0, rfl, Nat.le_refl _, RdI.nil_ _ _ _ _⟩
  · refine ⟨some ⟨g, 0, none⟩, cap, by rw [List.length_map], by rw [List.length_map]; exact hnc, fun _ => ⟨g, 0, rfl, Nat.zero_le _, lt_of_block hb, fun i x hx => ?_⟩⟩
    rw [List.getElem?_map] at hx
    obtain ⟨p, hp, rfl⟩ := Option.map_eq_some_iff.1 hx
    have hil : i < LV.length := (List.getElem?_eq_some_iff.1 hp).1
    obtain ⟨c0, c1, c2⟩ := cellsI_at hp
    have hr := fun j (hj : j < LV.length * 3) => h2.cellAt j hj
    refine ⟨p.2, ?_, ?_, ?_, (h3 p (List.mem_of_getElem? hp)).wide (Nat.zero_le _) hh⟩
    · rw [Nat.zero_add, hr _ (by omega)]; exact c0
    · rw [Nat.zero_add, hr _ (by omega)]; exact c1
    · rw [Nat.zero_add, hr _ (by omega)]; exact c2

end Go.Proofs.YtibbpbbgmgdpdaaGreatDoor
