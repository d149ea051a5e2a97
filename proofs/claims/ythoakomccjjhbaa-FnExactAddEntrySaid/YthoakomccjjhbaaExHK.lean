/- What the exact laws of histories use. -/
import Derived.Test.YthoakomccjjhbaaHisK
import Derived.Test.YthoakomccjjhbaaMarkX
namespace Go.Proofs.Ythoakomccjjhbaa
open Go.RowKit
set_option linter.unusedVariables false
set_option linter.unusedSimpArgs false
set_option maxRecDepth 100000

theorem Row.wrote {lo hi g : Nat} {t : TypeId} {cs : List Value} {w w' : World} (h : Row w g t cs) (hw : Wrote lo hi w w') (hn : g < lo ∨ hi ≤ g) : Row w' g t cs := Row.of_block h (hw.block g h.lt hn)
/-- a history is handed back, its blocks from lo on, below hi -/
def MadeH (w : World) (h : M.Hist) (e : Ending) (w' : World) : Prop :=
  ∃ (A : Option Addr) (c : Nat) (B : Option Addr) (d : Nat) (LV : List (M.Entry × Value)) (lo hi : Nat), e = .returned (.agg #[.slice A h.log.length c, .slice B h.times.length d]) ∧ h.log.length ≤ c ∧ h.times.length ≤ d ∧ LV.map (·.1) = h.log ∧ w.heap.size ≤ lo ∧ lo ≤ hi ∧ hi ≤ w'.heap.size ∧ OwnHM w' lo hi (.slice A h.log.length c) (.slice B h.times.length d) LV h.times ∧ w.grownBy w' none
theorem tohis_any {W : World} {A B : Option Addr} {c d : Nat} {h : M.Hist} (D : RdH W W.heap.size A B h) (hs : SmallH h) : Calls Try.prog 24 #[.agg #[.slice A h.log.length c, .slice B h.times.length d]] W (MadeH W h) :=
  (toHistory_any D hs).mono fun e w' hh => by
    obtain ⟨v, rfl, A1, c1, B1, d1, rfl, hc1, hd1, ho, hg⟩ := hh
    obtain ⟨LV, h1, h2⟩ := ho.hm
    exact ⟨A1, c1, B1, d1, LV, _, _, rfl, hc1, hd1, h1, Nat.le_refl _, hg.size, Nat.le_refl _, h2, hg⟩
/-- items are handed back, their blocks from lo on, below hi -/
def MadeS (w : World) (L : List M.Item) (e : Ending) (w' : World) : Prop :=
  ∃ (A : Option Addr) (c : Nat) (LV : List (M.Item × Value)) (lo hi : Nat), e = .returned (.slice A L.length c) ∧ LV.map (·.1) = L ∧ w.heap.size ≤ lo ∧ lo ≤ hi ∧ hi ≤ w'.heap.size ∧ OwnLV w' lo hi (.slice A L.length c) LV ∧ w.grownBy w' none
theorem madeS_of {w w' : World} {L : List M.Item} {e : Ending} (h : ItemsMade w L e w') : MadeS w L e w' := by
  obtain ⟨A, c, rfl, hc, ho, hg⟩ := h
  obtain ⟨LV, h1, h2⟩ := ho.lv
  exact ⟨A, c, LV, _, _, rfl, h1, Nat.le_refl _, hg.size, Nat.le_refl _, h2, hg⟩
/-- a history is handed back, or none, its blocks from lo on, below hi -/
def MadeO (w : World) (l : List M.Entry) (ts : List Int) (b : Bool) (e : Ending) (w' : World) : Prop :=
  ∃ (A : Option Addr) (c : Nat) (B : Option Addr) (d : Nat) (LV : List (M.Entry × Value)) (lo hi : Nat), e = .returned (.tuple #[.agg #[.slice A l.length c, .slice B ts.length d], .bool b]) ∧ LV.map (·.1) = l ∧ w.heap.size ≤ lo ∧ lo ≤ hi ∧ hi ≤ w'.heap.size ∧ OwnHM w' lo hi (.slice A l.length c) (.slice B ts.length d) LV ts ∧ w.grownBy w' none
theorem madeO_of {w w' : World} {r : Option M.Hist} {e : Ending} (h : HisOpt w r e w') : MadeO w (r.getD ⟨[], []⟩).log (r.getD ⟨[], []⟩).times r.isSome e w' := by
  obtain ⟨A, c, B, d, rfl, hc, hd, ho, hg⟩ := h
  obtain ⟨LV, h1, h2⟩ := ho.hm
  exact ⟨A, c, B, d, LV, _, _, rfl, h1, Nat.le_refl _, hg.size, Nat.le_refl _, h2, hg⟩
theorem small_opt {r : Option M.Hist} (hs : ∀ g, r = some g → M.validHist g = true) : SmallH ⟨(r.getD ⟨[], []⟩).log, (r.getD ⟨[], []⟩).times⟩ := by
  cases r with
  | none => exact valid_smallH valid_empty
  | some g => exact valid_smallH (hs g rfl)
end Go.Proofs.Ythoakomccjjhbaa
