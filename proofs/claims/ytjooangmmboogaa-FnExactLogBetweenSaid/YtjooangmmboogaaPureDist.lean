/- Distances as plain functions. No program in sight. -/
import Derived.Test.YtjooangmmboogaaPurePg
namespace Go.Proofs.Ytjooangmmboogaa
set_option linter.unusedVariables false
namespace M
def abs (d : Int) : Int := if d < 0 then -d else d
theorem abs_nonneg (d : Int) : 0 ≤ abs d := by unfold abs; split <;> omega
def dstep (kind n d : Int) : Int := if kind = 1 then n + d else if kind = 2 then (if n < d then d else n) else if kind = 3 then n + d * d else n + (if 0 < d then 1 else 0)
def distTo (kind : Int) (l m : List Int) : Nat → Int
  | 0 => 0
  | k + 1 => dstep kind (distTo kind l m k) (abs (l.getD k 0 - m.getD k 0))
def dist (kind : Int) (l m : List Int) : Int := distTo kind l m l.length
theorem sq_le {d : Int} (h0 : 0 ≤ d) (h1 : d ≤ 200) : 0 ≤ d * d ∧ d * d ≤ 40000 := by
  refine ⟨Int.mul_nonneg h0 h0, ?_⟩
  calc d * d ≤ 200 * d := Int.mul_le_mul_of_nonneg_right h1 h0
    _ ≤ 200 * 200 := Int.mul_le_mul_of_nonneg_left h1 (by omega)
    _ = 40000 := by decide
theorem distTo_rng {kind : Int} {l m : List Int} (hl : ∀ x ∈ l, -100 ≤ x ∧ x ≤ 100) (hm : ∀ x ∈ m, -100 ≤ x ∧ x ≤ 100) : ∀ k, 0 ≤ distTo kind l m k ∧ distTo kind l m k ≤ 40000 * k := by
  have hg : ∀ (l : List Int), (∀ x ∈ l, -100 ≤ x ∧ x ≤ 100) → ∀ k, -100 ≤ l.getD k 0 ∧ l.getD k 0 ≤ 100 := fun l hl k => by
    rw [List.getD_eq_getElem?_getD]
    cases h : l[k]? with
    | none => simp
    | some x => exact hl x (List.mem_of_getElem? h)
  intro k
  induction k with
  | zero => simp [distTo]
  | succ k ih =>
    have h1 := hg l hl k
    have h2 := hg m hm k
    have h3 : 0 ≤ abs (l.getD k 0 - m.getD k 0) ∧ abs (l.getD k 0 - m.getD k 0) ≤ 200 := by unfold abs; split <;> omega
    have h4 := sq_le h3.1 h3.2
    show 0 ≤ dstep kind (distTo kind l m k) (abs (l.getD k 0 - m.getD k 0)) ∧ dstep kind (distTo kind l m k) (abs (l.getD k 0 - m.getD k 0)) ≤ _
    generalize abs (l.getD k 0 - m.getD k 0) = d at *
    generalize distTo kind l m k = n at *
    unfold dstep
    generalize d * d = q at *
    repeat' split
    all_goals omega
theorem distTo_count {l m : List Int} : ∀ k, k ≤ l.length → k ≤ m.length → (distTo 4 l m k = 0 ↔ l.take k = m.take k) := by
  intro k
  induction k with
  | zero => intro _ _; simp [distTo]
  | succ k ih =>
    intro h1 h2
    have hn : ∀ k, 0 ≤ distTo 4 l m k := by
      intro k
      induction k with
      | zero => simp [distTo]
      | succ k ih => simp only [distTo, dstep]; split <;> (try split) <;> omega
    have hk := hn k
    have e : distTo 4 l m (k + 1) = distTo 4 l m k + (if 0 < abs (l.getD k 0 - m.getD k 0) then 1 else 0) := rfl
    rw [e, List.take_succ_eq_append_getElem (show k < l.length by omega), List.take_succ_eq_append_getElem (show k < m.length by omega)]
    have g1 : l.getD k 0 = l[k] := by simp [List.getD_eq_getElem?_getD, List.getElem?_eq_getElem (show k < l.length by omega)]
    have g2 : m.getD k 0 = m[k] := by simp [List.getD_eq_getElem?_getD, List.getElem?_eq_getElem (show k < m.length by omega)]
    rw [g1, g2]
    have i := ih (by omega) (by omega)
    constructor
    · intro h
      have h0 : distTo 4 l m k = 0 := by split at h <;> omega
      have h3 : l[k] = m[k] := by
        rw [h0] at h
        unfold abs at h
        split at h
        · omega
        · split at h <;> omega
      rw [i.1 h0, h3]
    · intro h
      have hi := List.append_inj_left' h rfl
      have h3 := List.append_inj_right' h rfl
      injection h3 with h3
      rw [i.2 hi, h3, Int.sub_self]
      rfl
theorem dist_count {l m : List Int} (h : l.length = m.length) : dist 4 l m = 0 ↔ l = m := by
  unfold dist
  rw [distTo_count _ (Nat.le_refl _) (by omega), List.take_of_length_le (Nat.le_refl _), h, List.take_of_length_le (Nat.le_refl _)]
/-- are two items the same? -/
def sameB (x y : Item) : Bool := x.key == y.key && decide (x.pos = y.pos) && x.tags == y.tags
end M
end Go.Proofs.Ytjooangmmboogaa
