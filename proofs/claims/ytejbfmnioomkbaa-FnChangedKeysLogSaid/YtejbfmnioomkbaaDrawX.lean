/- The histories that the laws are given. -/
import Derived.Test.YtejbfmnioomkbaaDrawT
namespace Go.Proofs.Ytejbfmnioomkbaa
open Go.RowKit
set_option linter.unusedVariables false
set_option linter.unusedSimpArgs false
set_option maxRecDepth 100000

theorem SeesGH.low {g : Nat} {w : World} {A B : Option Addr} {h : M.Hist} {p : Addr} (D : SeesGH g w A B h) (hp : p.block < g) (u : Value) : SeesGH g (w.setCell p u) A B h :=
  have ha := (Agree.refl (g + 1) w.heap.size w).set_ (p := p) (.inl (by omega)) u
  ⟨(D.1.agree ha).wide (Nat.le_refl _) (by simp), (D.2.1.agree ha).wide (Nat.le_refl _) (by simp), D.2.2⟩
theorem SeesGH.less {g g' : Nat} {w : World} {A B : Option Addr} {h : M.Hist} (D : SeesGH g w A B h) (hg : g' ≤ g) : SeesGH g' w A B h := ⟨D.1.wide (by omega) (Nat.le_refl _), D.2.1.wide (by omega) (Nat.le_refl _), D.2.2⟩
/-- a history of no great size -/
def HisForm (h : M.Hist) (c d : Nat) : Prop := h.log.length ≤ c ∧ h.times.length ≤ d ∧ h.log.length ≤ 40 ∧ h.times.length ≤ 40
def DrewH (w : World) (e : Ending) (w' : World) : Prop := ∃ (h : M.Hist) (A B : Option Addr) (c d : Nat), e = .returned (.agg #[.slice A h.log.length c, .slice B h.times.length d]) ∧ HisForm h c d ∧ SeesGH w.heap.size w' A B h ∧ w.grownBy w' none
def DrewHT (w : World) (e : Ending) (w' : World) : Prop := ∃ (h : M.Hist) (A B : Option Addr) (c d : Nat) (t : Int), e = .returned (.tuple #[.agg #[.slice A h.log.length c, .slice B h.times.length d], .int .i64 t]) ∧ HisForm h c d ∧ SeesGH w.heap.size w' A B h ∧ w.grownBy w' none
def DrewHTT (w : World) (e : Ending) (w' : World) : Prop := ∃ (h : M.Hist) (A B : Option Addr) (c d : Nat) (s t : Int), e = .returned (.tuple #[.agg #[.slice A h.log.length c, .slice B h.times.length d], .int .i64 s, .int .i64 t]) ∧ HisForm h c d ∧ SeesGH w.heap.size w' A B h ∧ w.grownBy w' none
def DrewHET (w : World) (e : Ending) (w' : World) : Prop := ∃ (h : M.Hist) (A B : Option Addr) (c d : Nat) (y : M.Entry) (Ay : Option Addr) (cy : Nat) (t : Int), e = .returned (.tuple #[.agg #[.slice A h.log.length c, .slice B h.times.length d], .agg #[.int .i64 y.kind, .int .i64 y.item.key, .slice Ay y.item.pos.length cy, .int .i64 y.item.tags], .int .i64 t]) ∧ HisForm h c d ∧ SeesGH w.heap.size w' A B h ∧ RdInts .i64 w' 0 w'.heap.size (.slice Ay y.item.pos.length cy) y.item.pos ∧ y.item.pos.length ≤ 5 ∧ w.grownBy w' none
end Go.Proofs.Ytejbfmnioomkbaa
