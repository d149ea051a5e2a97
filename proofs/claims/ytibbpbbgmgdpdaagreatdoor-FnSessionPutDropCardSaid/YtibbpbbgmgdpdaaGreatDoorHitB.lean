/- Words for memory: hits; and the small walks on them. -/
import Derived.Test.YtibbpbbgmgdpdaaGreatDoorNear
import Derived.Test.YtibbpbbgmgdpdaaGreatDoorExK
namespace Go.Proofs.YtibbpbbgmgdpdaaGreatDoor
open Go.RowKit
set_option linter.unusedVariables false
set_option maxRecDepth 100000

/-- the cells of hits -/
def cellsX (l : List M.Hit) : List Value := l.flatMap fun h => [.int .i64 h.key, .int .i64 h.dist]
theorem cellsX_length (l : List M.Hit) : (cellsX l).length = l.length * 2 := by
  induction l with
  | nil => rfl
  | cons p r ih => show ([_, _] ++ cellsX r).length = _; rw [List.length_append, ih]; simp; omega
theorem cellsX_append (a b : List M.Hit) : cellsX (a ++ b) = cellsX a ++ cellsX b := by simp [cellsX]
theorem cellsX_one (h : M.Hit) : cellsX [h] = [.int .i64 h.key, .int .i64 h.dist] := by simp [cellsX]
theorem cellsX_cons (h : M.Hit) (r : List M.Hit) : cellsX (h :: r) = .int .i64 h.key :: .int .i64 h.dist :: cellsX r := by simp [cellsX]
theorem cellsX_at : ∀ {l : List M.Hit} {i : Nat} {h : M.Hit}, l[i]? = some h → (cellsX l)[i * 2]? = some (.int .i64 h.key) ∧ (cellsX l)[i * 2 + 1]? = some (.int .i64 h.dist) := by
  intro l
  induction l with
  | nil => intro i h e; simp at e
  | cons q r ih =>
    intro i h e
    rw [cellsX_cons]
    cases i with
    | zero =>
      simp at e
      subst e
      exact ⟨rfl, rfl⟩
    | succ i =>
      have := ih (i := i) (h := h) (by simpa using e)
      rw [show (i + 1) * 2 = i * 2 + 1 + 1 from by omega]
      simpa using this
theorem cellsX_take (l : List M.Hit) (k : Nat) : (cellsX l).take (k * 2) = cellsX (l.take k) := by
  induction l generalizing k with
  | nil => simp [cellsX]
  | cons q r ih =>
    cases k with
    | zero => simp [cellsX]
    | succ k =>
      rw [cellsX_cons, show (k + 1) * 2 = k * 2 + 1 + 1 from by omega, List.take_succ_cons, List.take_succ_cons, ih, List.take_succ_cons, cellsX_cons]
theorem hit_oneCell {a b : Int} : ∀ u ∈ [Value.int .i64 a, Value.int .i64 b], u.oneCell' = true := by
  intro u hu
  simp at hu
  rcases hu with rfl | rfl <;> rfl
theorem two_cell_at {w : World} {t : TypeId} {x y : Value} {g : Nat} (hg : g = w.heap.size) : ∀ (j : Nat) (u : Value), [x, y][j]? = some u → (w.alloc (.cells #[x, y] t)).cell? ((⟨g, 0, none⟩ : Addr).add j) = some u := by
  subst hg
  intro j u hu
  rw [Addr.add_lit, Nat.zero_add, cell_of_row _ _ _ #[x, y] t (0, 0) (heap_alloc_new w _)]
  simpa using hu
theorem info_hit : (Tryz.prog.info? 65).map (fun i => (i.zero, i.size, i.bytes)) = some (some (.agg #[.int .i64 0, .int .i64 0]), 2, 16) := by kernel_rfl

/-- hits of the call's own -/
def OwnX (w : World) (lo : Nat) (v : Value) (l : List M.Hit) : Prop := w.ownsRow lo 65 2 v l.length (cellsX l)
theorem OwnX.wide {w : World} {lo lo' : Nat} {v : Value} {l : List M.Hit} (h : OwnX w lo v l) (hl : lo' ≤ lo) : OwnX w lo' v l := by
  refine ⟨h.1, ?_⟩
  rcases h.2 with h0 | ⟨g, cap, cur, hv, hg, r⟩
  · exact .inl h0
  · exact .inr ⟨g, cap, cur, hv, by omega, r⟩
theorem OwnX.grown {w w' : World} {lo : Nat} {v : Value} {l : List M.Hit} {r : Option Nat} (h : OwnX w lo v l) (hg : w.grownBy w' r) (hr : ∀ g, r = some g → g < lo) : OwnX w' lo v l := h.kept hg (own_ge h hr)
theorem OwnX.on {w w' : World} {lo : Nat} {v : Value} {l : List M.Hit} (h : OwnX w lo v l) (hg : w.grownBy w' none) : OwnX w' lo v l := h.grown hg (by simp)
theorem OwnX.form {w : World} {lo : Nat} {v : Value} {l : List M.Hit} (h : OwnX w lo v l) : ∃ A c, v = .slice A l.length c ∧ l.length ≤ c := by
  rcases h.2 with ⟨rfl, hn⟩ | ⟨g, cap, cur, rfl, hg, hh, hnc, hcm, hcs, htake⟩
  · exact ⟨none, 0, by rw [hn], by omega⟩
  · exact ⟨_, _, rfl, hnc⟩
theorem OwnX.rd {w : World} {lo c : Nat} {A : Option Addr} {l : List M.Hit} (h : OwnX w lo (.slice A l.length c) l) : Rd w lo w.heap.size A (cellsX l) := rd_of_owns h
/-- hits that are seen -/
def SeesX (w : World) (A : Option Addr) (l : List M.Hit) : Prop := Rd w 0 w.heap.size A (cellsX l) ∧ l.length ≤ 1048576
theorem SeesX.on {w w' : World} {A : Option Addr} {l : List M.Hit} (h : SeesX w A l) (hg : w.grownBy w' none) : SeesX w' A l := ⟨(h.1.keep hg (Nat.le_refl _)).wide (Nat.le_refl _) hg.size, h.2⟩
theorem OwnX.sees {w : World} {lo c : Nat} {A : Option Addr} {l : List M.Hit} (h : OwnX w lo (.slice A l.length c) l) (hl : l.length ≤ 1048576) : SeesX w A l := ⟨h.rd.wide (Nat.zero_le _) (Nat.le_refl _), hl⟩
theorem SeesX.nil_ (w : World) (A : Option Addr) : SeesX w A [] := ⟨Rd.nil_ _ _ _ _, Nat.zero_le _⟩
theorem Rd.hit {w : World} {lo hi : Nat} {A : Option Addr} {l : List M.Hit} (h : Rd w lo hi A (cellsX l)) {j : Nat} {x : M.Hit} (hj : l[j]? = some x) :
    ∃ b o, A = some ⟨b, o, none⟩ ∧ lo ≤ b ∧ b < hi ∧ w.cell? ⟨b, o + j * 2, none⟩ = some (.int .i64 x.key) ∧ w.cell? ⟨b, o + j * 2 + 1, none⟩ = some (.int .i64 x.dist) := by
  obtain ⟨h1, h2⟩ := cellsX_at hj
  obtain ⟨b, o, e, h3, h4, hc⟩ := h (by intro hx; rw [hx] at h1; simp at h1)
  exact ⟨b, o, e, h3, h4, hc _ _ h1, by have := hc _ _ h2; rwa [← Nat.add_assoc] at this⟩
/-- an answer: hits of the call's own -/
def HitsMade (w : World) (l : List M.Hit) (e : Ending) (w' : World) : Prop :=
  ∃ A c, e = .returned (.slice A l.length c) ∧ l.length ≤ c ∧ OwnX w' w.heap.size (.slice A l.length c) l ∧ w.grownBy w' none
theorem hitsMade_of {w w0 w' : World} {l : List M.Hit} {v : Value} (ho : OwnX w' w0.heap.size v l) (h0 : w.heap.size ≤ w0.heap.size) (h : w.grownBy w' none) : HitsMade w l (.returned v) w' := by
  obtain ⟨A, c, rfl, hc⟩ := ho.form
  exact ⟨A, c, rfl, hc, ho.wide h0, h⟩
theorem hitsMade_nil {w w' : World} {l : List M.Hit} (hl : l = []) (h : w.grownBy w' none) : HitsMade w l (.returned (.slice none 0 0)) w' := by
  subst hl
  exact ⟨none, 0, rfl, Nat.le_refl _, World.ownsRow_nil _ _ _ _, h⟩
theorem HitsMade.on {w w0 w' : World} {l : List M.Hit} {e : Ending} (h : HitsMade w0 l e w') (hg : w.grownBy w0 none) : HitsMade w l e w' := by
  obtain ⟨A, c, rfl, hc, ho, h2⟩ := h
  exact ⟨A, c, rfl, hc, ho.wide hg.size, gb_trans hg h2⟩

theorem hit_eq_iff {a b : M.Hit} : a = b ↔ a.key = b.key ∧ a.dist = b.dist := ⟨fun h => by subst h; exact ⟨rfl, rfl⟩, fun h => M.hit_ext h.1 h.2⟩
end Go.Proofs.YtibbpbbgmgdpdaaGreatDoor
