/- The nearest centres as a plain list. No program in sight. -/
import Derived.Test.YtamaoljjoghajaaVecB
import Derived.Sort.LotA
namespace Go.Proofs.Ytamaoljjoghajaa
open Go.Sort
set_option linter.unusedVariables false
section
variable {α : Type} [Inhabited α]
theorem insInner_keeps (lt : α → α → Bool) (a : Nat) : ∀ (j : Nat) (d : Array α), j < d.size →
    (insInner lt a j d).size = d.size ∧ (∀ k, j < k → (insInner lt a j d)[k]! = d[k]!) ∧ (∀ P : α → Prop, (∀ k, k ≤ j → P d[k]!) → ∀ k, k ≤ j → P (insInner lt a j d)[k]!)
  | 0, d, _ => ⟨rfl, fun _ _ => rfl, fun P h => h⟩
  | j + 1, d, hj => by
    unfold insInner
    split
    · have hs := swp_size d (j + 1) j
      obtain ⟨h1, h2, h3⟩ := insInner_keeps lt a j (swp d (j + 1) j) (by omega)
      have g := swp_get d hj (show j < d.size by omega)
      refine ⟨by omega, fun k hk => ?_, fun P hP k hk => ?_⟩
      · rw [h2 k (by omega), g, if_neg (by omega), if_neg (by omega)]
      · by_cases hk' : k ≤ j
        · refine h3 P (fun k' hk'' => ?_) k hk'
          rw [g]
          split
          · exact hP _ (Nat.le_refl _)
          · split
            · exact hP _ (by omega)
            · exact hP _ (by omega)
        · obtain rfl : k = j + 1 := by omega
          rw [h2 _ (by omega), g, if_neg (by omega), if_pos rfl]
          exact hP _ (by omega)
    · exact ⟨rfl, fun _ _ => rfl, fun P h => h⟩
variable {lt lx : α → α → Bool} {f : α → Nat}
theorem insInner_stable (h : ∀ x y, f y < f x → lt x y = lx x y) (a : Nat) : ∀ (j : Nat) (d : Array α), j < d.size → (∀ i, i < j → f d[i]! < f d[j]!) → insInner lt a j d = insInner lx a j d
  | 0, d, _, _ => rfl
  | j + 1, d, hj, hd => by
    unfold insInner
    rw [h _ _ (hd j (by omega))]
    split
    · refine insInner_stable h a j _ (by rw [swp_size]; omega) (fun i hi => ?_)
      have g := swp_get d hj (show j < d.size by omega)
      rw [g, g, if_neg (by omega), if_neg (by omega), if_pos rfl]
      exact hd i (by omega)
    · rfl
theorem insOuter_stable (h : ∀ x y, f y < f x → lt x y = lx x y) (b : Nat) : ∀ (n i : Nat) (d : Array α), b - i = n → b ≤ d.size → (∀ k, i ≤ k → k < b → f d[k]! = k) → (∀ k, k < i → f d[k]! < i) → insOuter lt 0 b i d = insOuter lx 0 b i d
  | 0, i, d, hn, _, _, _ => by
    rw [insOuter, if_neg (by omega), insOuter, if_neg (by omega)]
  | n + 1, i, d, hn, hb, h1, h2 => by
    have hi : i < b := by omega
    rw [insOuter, if_pos hi]
    conv => rhs; rw [insOuter, if_pos hi]
    rw [insInner_stable h 0 i d (by omega) (fun k hk => by have := h2 k hk; rw [h1 i (Nat.le_refl _) hi]; exact this)]
    obtain ⟨k1, k2, k3⟩ := insInner_keeps lx 0 i d (by omega)
    refine insOuter_stable h b n (i + 1) _ (by omega) (by omega) (fun k hk hk' => ?_) (fun k hk => ?_)
    · rw [k2 k (by omega), h1 k (by omega) hk']
    · refine k3 (fun x => f x < i + 1) (fun k' hk'' => ?_) k (by omega)
      by_cases e : k' = i
      · subst e; show f d[k']! < k' + 1; rw [h1 k' (Nat.le_refl _) hi]; omega
      · have := h2 k' (by omega); show f d[k']! < i + 1; omega
end
namespace M
def probeHits (C : List (List Int)) (m : List Int) : List Hit := (List.range C.length).map fun (i : Nat) => (⟨(i : Int), cdist C m i⟩ : Hit)
/-- the numbers of the nearest centres -/
def probesL (C : List (List Int)) (m : List Int) (k : Nat) : List Int := ((sortH (probeHits C m)).take k).map Hit.key
theorem probeHits_len (C : List (List Int)) (m : List Int) : (probeHits C m).length = C.length := by simp [probeHits]
theorem probesL_len (C : List (List Int)) (m : List Int) (k : Nat) : (probesL C m k).length = min k C.length := by
  unfold probesL; rw [List.length_map, List.length_take, sortH_len, probeHits_len]
end M
theorem extract_full {α : Type} (r : Array α) {n : Nat} (h : r.size = n) : r.extract 0 n = r := by subst h; simp
theorem stable_probes {N : Nat} (C : List (List Int)) (m : List Int) (hC : C.length = N + 1) (lt : Fin (N + 1) → Fin (N + 1) → Bool) (hlt : ∀ x y, lt x y = decide (M.cdist C m x.val < M.cdist C m y.val))
    (d : Array (Fin (N + 1))) (hs : d.size = N + 1) (h0 : ∀ k, k < N + 1 → (d[k]!).val = k) :
    (insertionSort lt d 0 (N + 1)).size = N + 1 ∧ (insertionSort lt d 0 (N + 1)).toList.map (fun x => (x.val : Int)) = (M.sortH (M.probeHits C m)).map M.Hit.key := by
  let hit : Fin (N + 1) → M.Hit := fun x => ⟨(x.val : Int), M.cdist C m x.val⟩
  let lx : Fin (N + 1) → Fin (N + 1) → Bool := fun x y => M.hlt (hit x) (hit y)
  have hS : SWO lx := {
    irrefl := fun x => by show M.hlt _ _ = false; rw [M.hlt_not]; omega
    trans := fun x y z h1 h2 => by
      have h1' : M.hlt _ _ = true := h1
      have h2' : M.hlt _ _ = true := h2
      show M.hlt _ _ = true
      rw [M.hlt_iff] at *
      omega
    ntrans := fun x y z h1 h2 => by
      have h1' : M.hlt _ _ = false := h1
      have h2' : M.hlt _ _ = false := h2
      show M.hlt _ _ = false
      rw [M.hlt_not] at *
      omega }
  have e : insertionSort lt d 0 (N + 1) = insertionSort lx d 0 (N + 1) := by
    unfold insertionSort
    refine insOuter_stable (f := fun x => x.val) (fun x y hxy => ?_) (N + 1) _ _ d rfl (by omega) (fun k _ hk => h0 k hk) (fun k hk => by show (d[k]!).val < _; rw [h0 k (by omega)]; exact hk)
    rw [hlt, Bool.eq_iff_iff, decide_eq_true_eq]
    show _ ↔ M.hlt _ _ = true
    rw [M.hlt_iff]
    show _ ↔ (M.cdist C m x.val < M.cdist C m y.val ∨ M.cdist C m x.val = M.cdist C m y.val ∧ (x.val : Int) < (y.val : Int))
    have hxy' : y.val < x.val := hxy
    omega
  rw [e]
  obtain ⟨⟨p1, _, p3⟩, p4⟩ := insertionSort_holds (lt := lx) hS d 0 (N + 1) (Nat.zero_le _) (by omega)
  generalize insertionSort lx d 0 (N + 1) = r at *
  have hr : r.size = N + 1 := by omega
  refine ⟨hr, ?_⟩
  have e1 : r.extract 0 (N + 1) = r := extract_full r hr
  have e2 : d.extract 0 (N + 1) = d := extract_full d hs
  rw [e1, e2] at p3
  have hd : d.toList.map hit = M.probeHits C m := by
    unfold M.probeHits
    rw [hC]
    apply List.ext_getElem
    · simp [hs]
    · intro i h1 h2
      have hi : i < N + 1 := by simpa using h2
      have := h0 i hi
      rw [getElem!_pos d i (by omega)] at this
      simp [hit, this]
  have hm : M.sortH (M.probeHits C m) = r.toList.map hit := by
    refine M.sortH_unique ?_ ?_
    · rw [← hd]; exact p3.map hit
    · unfold M.WS
      rw [List.pairwise_iff_getElem]
      intro i j hi hj hij
      rw [List.length_map, Array.length_toList] at hi hj
      have h := p4 i j (Nat.zero_le _) hij (by omega)
      rw [getElem!_pos r i hi, getElem!_pos r j hj] at h
      simpa using h
  rw [hm, List.map_map]
  rfl
end Go.Proofs.Ytamaoljjoghajaa
