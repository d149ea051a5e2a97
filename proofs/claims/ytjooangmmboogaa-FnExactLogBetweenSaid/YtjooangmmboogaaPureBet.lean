/- Logs between stores as plain functions. No program in sight. -/
import Derived.Test.YtjooangmmboogaaPureDist
import Derived.Test.YtjooangmmboogaaPureLog
import Derived.Test.YtjooangmmboogaaPurePut
namespace Go.Proofs.Ytjooangmmboogaa
set_option linter.unusedVariables false
namespace M
def noKey (b : List Item) (x : Item) : Bool := decide (keyAt b x.key < 0)
def dropOf (x : Item) : Entry := ⟨2, ⟨x.key, [], 0⟩⟩
def putOf (x : Item) : Entry := ⟨1, x⟩
def need (a : List Item) (y : Item) : Bool := match a.find? (fun x => decide (x.key = y.key)) with | some x => !sameB x y | none => true
def dropsTo (a b : List Item) (k : Nat) : List Entry := ((a.take k).filter (noKey b)).map dropOf
def putsTo (a b : List Item) (k : Nat) : List Entry := ((b.take k).filter (need a)).map putOf
def LogBetween (a b : List Item) : List Entry := if validStore a = true ∧ validStore b = true then dropsTo a b a.length ++ putsTo a b b.length else []
theorem dropsTo_succ {a b : List Item} {k : Nat} (hk : k < a.length) : dropsTo a b (k + 1) = dropsTo a b k ++ (if noKey b a[k] = true then [dropOf a[k]] else []) := by
  unfold dropsTo
  rw [filter_take hk, List.map_append]
  split <;> rfl
theorem putsTo_succ {a b : List Item} {k : Nat} (hk : k < b.length) : putsTo a b (k + 1) = putsTo a b k ++ (if need a b[k] = true then [putOf b[k]] else []) := by
  unfold putsTo
  rw [filter_take hk, List.map_append]
  split <;> rfl
theorem dropsTo_len (a b : List Item) (k : Nat) : (dropsTo a b k).length ≤ a.length := by
  unfold dropsTo
  rw [List.length_map]
  exact Nat.le_trans (List.length_filter_le _ _) (by rw [List.length_take]; omega)
theorem putsTo_len (a b : List Item) (k : Nat) : (putsTo a b k).length ≤ b.length := by
  unfold putsTo
  rw [List.length_map]
  exact Nat.le_trans (List.length_filter_le _ _) (by rw [List.length_take]; omega)
theorem keyAt_cases (a : List Item) (k : Int) : (keyAt a k = -1 ∧ a.find? (fun x => decide (x.key = k)) = none) ∨ ∃ (i : Nat) (hi : i < a.length), keyAt a k = i ∧ a.find? (fun x => decide (x.key = k)) = some a[i] := by
  unfold keyAt
  cases h : a.findIdx? (fun x => decide (x.key = k)) with
  | none =>
    left
    refine ⟨rfl, ?_⟩
    rw [List.findIdx?_eq_none_iff] at h
    rw [List.find?_eq_none]
    intro x hx
    simpa using h x hx
  | some i =>
    right
    rw [List.findIdx?_eq_some_iff_getElem] at h
    obtain ⟨hi, hp, hj⟩ := h
    refine ⟨i, hi, rfl, ?_⟩
    rw [List.find?_eq_some_iff_getElem]
    exact ⟨hp, i, hi, rfl, fun j hj' => by simpa using hj j hj'⟩
theorem keyAt_lt (a : List Item) (k : Int) : -1 ≤ keyAt a k ∧ keyAt a k < a.length := by
  rcases keyAt_cases a k with ⟨h, _⟩ | ⟨i, hi, h, _⟩ <;> rw [h] <;> constructor <;> omega
theorem need_none {a : List Item} {y : Item} (h : a.find? (fun x => decide (x.key = y.key)) = none) : need a y = true := by unfold need; rw [h]
theorem need_some {a : List Item} {y x : Item} (h : a.find? (fun x => decide (x.key = y.key)) = some x) : need a y = !sameB x y := by unfold need; rw [h]
end M
end Go.Proofs.Ytjooangmmboogaa
