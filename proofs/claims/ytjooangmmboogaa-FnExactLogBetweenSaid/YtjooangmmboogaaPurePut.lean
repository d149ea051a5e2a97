/- Putting and dropping items as plain functions. No program in sight. -/
import Derived.Test.YtjooangmmboogaaPureS
namespace Go.Proofs.Ytjooangmmboogaa
namespace M
def put (L : List Item) (x : Item) : List Item := L.filter (fun y => decide (y.key < x.key)) ++ [x] ++ L.filter (fun y => decide (x.key < y.key))
def PutItem (L : List Item) (x : Item) : Option (List Item) := if validStore L = true ∧ validItem x = true ∧ validStore (put L x) = true then some (put L x) else none
def keyAt (L : List Item) (k : Int) : Int := match L.findIdx? (fun x => decide (x.key = k)) with | some i => (i : Int) | none => -1
def dropKey (L : List Item) (k : Int) : List Item := L.filter fun y => decide (y.key ≠ k)
def DropItem (L : List Item) (k : Int) : Option (List Item) := if validStore L = true ∧ 0 ≤ keyAt L k then some (dropKey L k) else none
theorem filter_take {L : List Item} {p : Item → Bool} {k : Nat} (hk : k < L.length) : (L.take (k + 1)).filter p = (L.take k).filter p ++ (if p L[k] = true then [L[k]] else []) := by
  rw [List.take_succ_eq_append_getElem hk, List.filter_append]
  congr 1
  by_cases h : p L[k] = true <;> simp [h]
end M
end Go.Proofs.Ytjooangmmboogaa
