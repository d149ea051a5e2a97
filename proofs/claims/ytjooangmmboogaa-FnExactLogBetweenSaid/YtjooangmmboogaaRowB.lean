/- A block known whole; slices of the call's own. No program in sight. -/
import Derived.Test.YtjooangmmboogaaBase
import Derived.Deep.OwnRows
namespace Go.Proofs.Ytjooangmmboogaa
open Go.RowKit
set_option linter.unusedVariables false

/-- block g is just the cells cs, of elements of type t, none frozen -/
def Row (w : World) (g : Nat) (t : TypeId) (cs : List Value) : Prop := w.heap[g]? = some (.cells cs.toArray t (0, 0))
section
variable {w w' : World} {g : Nat} {t : TypeId} {cs : List Value}
theorem Row.lt (h : Row w g t cs) : g < w.heap.size := lt_of_block h
theorem Row.cell (h : Row w g t cs) (i : Nat) : w.cell? ⟨g, i, none⟩ = cs[i]? := by
  rw [cell_of_row w g i cs.toArray t (0, 0) h]; simp
theorem Row.frozen (h : Row w g t cs) (i : Nat) : w.frozen? ⟨g, i, none⟩ = false := by unfold Row at h; simp [World.frozen?, h]
theorem Row.new (w : World) (t : TypeId) {ca : Array Value} (h : ca.toList = cs) : Row (w.alloc (.cells ca t)) w.heap.size t cs := by
  subst h; exact heap_alloc_new w _
theorem Row.set_ (h : Row w g t cs) (i : Nat) (u : Value) : Row (w.setCell ⟨g, i, none⟩ u) g t (cs.set i u) := by
  unfold Row at h ⊢
  simp [World.setCell, Array.getElem?_modify, h]
theorem Row.of_block (h : Row w g t cs) (e : w'.heap[g]? = w.heap[g]?) : Row w' g t cs := e.trans h
theorem Row.alloc (h : Row w g t cs) (o : Obj) : Row (w.alloc o) g t cs := (Below.heap_alloc w o g h.lt).trans h
theorem Row.far (h : Row w g t cs) {p : Addr} (hp : g ≠ p.block) (u : Value) : Row (w.setCell p u) g t cs := (Below.heap_setCell w p u g hp).trans h
theorem Row.drewN (h : Row w g t cs) (n : Nat) : Row (w.drewN n) g t cs := h
theorem Row.grown {r : Option Nat} (h : Row w g t cs) (hg : w.grownBy w' r) (hne : some g ≠ r) : Row w' g t cs := (hg.block g h.lt hne).trans h
theorem Row.owns (h : Row w g t cs) {base n cap size : Nat} (hb : base ≤ g) (hn : n ≤ cap) (hm : cap ≤ maxLen) (hs : cs.length = cap * size) :
    w.ownsRow base t size (.slice (some ⟨g, 0, none⟩) n cap) n (cs.take (n * size)) := by
  refine ⟨?_, .inr ⟨g, cap, cs.toArray, rfl, hb, h, hn, hm, by simpa using hs, by simp⟩⟩
  rw [List.length_take, hs]
  exact Nat.min_eq_left (Nat.mul_le_mul_right _ hn)
end

theorem fill_step {α : Type} (f : Int → α) (z : α) (l : List Int) (k : Nat) (hk : k < l.length) :
    ((l.take k).map f ++ List.replicate (l.length - k) z).set k (f l[k]) = (l.take (k + 1)).map f ++ List.replicate (l.length - (k + 1)) z := by
  have e : l.length - k = (l.length - (k + 1)) + 1 := by omega
  rw [e, List.replicate_succ, List.set_append_right _ _ (by simp; omega)]
  rw [show k - ((l.take k).map f).length = 0 from by simp; omega]
  rw [List.take_succ_eq_append_getElem hk]
  simp only [List.set_cons_zero, List.map_append, List.map_cons, List.map_nil, List.append_assoc, List.cons_append, List.nil_append]

/-- an owned slice reads as what it owns -/
theorem rd_of_owns {w : World} {lo : Nat} {e : TypeId} {size n c : Nat} {A : Option Addr} {xs : List Value} (h : w.ownsRow lo e size (.slice A n c) n xs) : Rd w lo w.heap.size A xs := fun hx => by
  obtain ⟨hl, h2⟩ := h
  rcases h2 with ⟨hv, hn⟩ | ⟨g, cap, cur, hv, hg, hh, hnc, hcm, hcs, htake⟩
  · subst hn
    exact absurd (List.eq_nil_of_length_eq_zero (by simpa using hl)) hx
  · injection hv with hA _ _
    refine ⟨g, 0, hA, hg, lt_of_block hh, fun j u hu => ?_⟩
    rw [Nat.zero_add, cell_of_row w g j cur e (0, 0) hh]
    rw [← htake, List.getElem?_take] at hu
    split at hu
    · simpa using hu
    · cases hu

/-- a slice of integers of the call's own -/
def OwnInts (k : IntKind) (t : TypeId) (w : World) (lo : Nat) (v : Value) (l : List Int) : Prop := w.ownsRow lo t 1 v l.length (l.map (.int k))
theorem OwnInts.rd {k : IntKind} {t : TypeId} {w : World} {lo : Nat} {v : Value} {l : List Int} (h : OwnInts k t w lo v l) : RdInts k w lo w.heap.size v l := by
  have h' := h
  rcases h.2 with ⟨rfl, hn⟩ | ⟨g, cap, cur, rfl, hg, hh, hnc, hcm, hcs, htake⟩
  · have hl : l = [] := List.eq_nil_of_length_eq_zero hn
    subst hl
    exact ⟨none, 0, rfl, Nat.le_refl _, Rd.nil_ _ _ _ _⟩
  · exact ⟨_, _, rfl, hnc, rd_of_owns h'⟩
theorem OwnInts.grown {k : IntKind} {t : TypeId} {w w' : World} {lo : Nat} {v : Value} {l : List Int} {r : Option Nat} (h : OwnInts k t w lo v l) (hg : w.grownBy w' r) (hr : ∀ g, r = some g → g < lo) : OwnInts k t w' lo v l := by
  refine h.kept hg ?_
  cases hv : v.ownBlock with
  | none => exact .inl rfl
  | some b =>
    refine .inr fun e => ?_
    have h1 := (h.lt b hv).1
    have h2 := hr b e.symm
    omega
theorem OwnInts.set_ {k : IntKind} {t : TypeId} {w : World} {lo : Nat} {v : Value} {l : List Int} (h : OwnInts k t w lo v l) {p : Addr} (hp : p.block < lo) (u : Value) : OwnInts k t (w.setCell p u) lo v l := ownsRow_setCell_below h hp u
theorem OwnInts.wide {k : IntKind} {t : TypeId} {w : World} {lo lo' : Nat} {v : Value} {l : List Int} (h : OwnInts k t w lo v l) (hl : lo' ≤ lo) : OwnInts k t w lo' v l := by
  refine ⟨h.1, ?_⟩
  rcases h.2 with h0 | ⟨g, cap, cur, hv, hg, r⟩
  · exact .inl h0
  · exact .inr ⟨g, cap, cur, hv, by omega, r⟩

theorem own_drewN {w : World} {base : Nat} {e : TypeId} {size : Nat} {v : Value} {n : Nat} {xs : List Value} (h : w.ownsRow base e size v n xs) (k : Nat) : (w.drewN k).ownsRow base e size v n xs := h

theorem one_cell_new {w : World} {t : TypeId} {x : Value} : ∀ (j : Nat) (u : Value), [x][j]? = some u → (w.alloc (.cells #[x] t)).cell? ((⟨w.heap.size, 0, none⟩ : Addr).add j) = some u := by
  intro j u hu
  match j, hu with
  | 0, hu =>
    simp at hu
    subst hu
    rw [show (⟨w.heap.size, 0, none⟩ : Addr).add 0 = ⟨w.heap.size, 0, none⟩ from by simp [Addr.add], cell_of_row _ _ _ #[x] t (0, 0) (heap_alloc_new w _)]
    rfl
theorem one_cell_at {w : World} {t : TypeId} {x : Value} {g : Nat} (hg : g = w.heap.size) : ∀ (j : Nat) (u : Value), [x][j]? = some u → (w.alloc (.cells #[x] t)).cell? ((⟨g, 0, none⟩ : Addr).add j) = some u := by
  subst hg
  exact one_cell_new
theorem one_cells {x : Value} (h : x.oneCell' = true) : ∀ u ∈ [x], u.oneCell' = true := by
  intro u hu
  simp at hu
  subst hu
  exact h

end Go.Proofs.Ytjooangmmboogaa
