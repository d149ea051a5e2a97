/- What FnExactAddEntry uses: a history handed back into a box. -/
import Derived.Test.YthoakomccjjhbaaFrame
import Derived.Deep.RegionHeld3
import Derived.Test.YthoakomccjjhbaaExHK
import Derived.Test.YthoakomccjjhbaaMarkY
namespace Go.Proofs.Ythoakomccjjhbaa
open Go.ChangeShapes Go.WideShapes Go.ChangeAt Go.RowKit
set_option linter.unusedVariables false
set_option linter.unusedSimpArgs false
/-- a history, or none, was handed back into a box at b -/
def BoxO (w : World) (l : List M.Entry) (ts : List Int) (b : Nat) (A : Option Addr) (c : Nat) (B : Option Addr) (d : Nat) (LV : List (M.Entry × Value)) (lo hi : Nat) (W : World) : Prop :=
  Row W b 26 [.slice A l.length c, .slice B ts.length d] ∧ LV.map (·.1) = l ∧ w.heap.size ≤ lo ∧ lo ≤ hi ∧ hi ≤ W.heap.size ∧ OwnHM W lo hi (.slice A l.length c) (.slice B ts.length d) LV ts ∧ w.heap.size ≤ b ∧ b < W.heap.size ∧ (b < lo ∨ hi ≤ b) ∧ w.grownBy W none
theorem boxO_new {w W : World} {l : List M.Entry} {ts : List Int} {A B : Option Addr} {c d lo hi : Nat} {LV : List (M.Entry × Value)} (hm : LV.map (·.1) = l) (h1 : w.heap.size ≤ lo) (h2 : lo ≤ hi) (h3 : hi ≤ W.heap.size) (ho : OwnHM W lo hi (.slice A l.length c) (.slice B ts.length d) LV ts) (hg : w.grownBy W none) :
    BoxO w l ts W.heap.size A c B d LV lo hi (W.alloc (.cells #[.slice A l.length c, .slice B ts.length d] 26)) :=
  ⟨Row.new W _ rfl, hm, h1, h2, by simp; omega, ho.agree ((Agree.refl _ _ _).alloc _ h3), hg.size, by simp, .inr h3, gb_alloc hg _⟩
theorem boxO_old {w W : World} {l : List M.Entry} {ts : List Int} {A B : Option Addr} {c d lo hi b : Nat} {LV : List (M.Entry × Value)} {x y : Value} (hr : Row W b 26 [x, y]) (hb : w.heap.size ≤ b) (hbl : b < lo) (hm : LV.map (·.1) = l) (h1 : w.heap.size ≤ lo) (h2 : lo ≤ hi) (h3 : hi ≤ W.heap.size) (ho : OwnHM W lo hi (.slice A l.length c) (.slice B ts.length d) LV ts) (hg : w.grownBy W none) :
    BoxO w l ts b A c B d LV lo hi ((W.setCell ⟨b, 0, none⟩ (.slice A l.length c)).setCell ⟨b, 1, none⟩ (.slice B ts.length d)) :=
  ⟨(hr.set_ 0 _).set_ 1 _, hm, h1, h2, by simpa using h3, ho.agree (((Agree.refl _ _ _).set_ (.inl hbl) _).set_ (.inl hbl) _), hb, by have := hr.lt; simpa using this, .inl hbl, gb_setCell (gb_setCell hg (.inl hb) _) (.inl hb) _⟩
end Go.Proofs.Ythoakomccjjhbaa
