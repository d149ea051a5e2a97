/- Words for memory: entries of logs. No program in sight. Words for memory: entries of the call's own. -/
import Derived.Test.YtibbpbbgmgdpdaaGreatDoorKeep
import Derived.Test.YtibbpbbgmgdpdaaGreatDoorBase
namespace Go.Proofs.YtibbpbbgmgdpdaaGreatDoor
open Go.RowKit
set_option linter.unusedVariables false

/-- an entry lies at a place -/
def EntAt (w : World) (lo hi b o : Nat) (x : M.Entry) : Prop :=
  ∃ u, w.cell? ⟨b, o, none⟩ = some (.int .i64 x.kind) ∧ w.cell? ⟨b, o + 1, none⟩ = some (.int .i64 x.item.key) ∧ w.cell? ⟨b, o + 1 + 1, none⟩ = some u ∧ w.cell? ⟨b, o + 1 + 2, none⟩ = some (.int .i64 x.item.tags) ∧ RdInts .i64 w lo hi u x.item.pos
theorem EntAt.agree {w w' : World} {lo hi b o : Nat} {x : M.Entry} (h : EntAt w lo hi b o x) (h1 : lo ≤ b) (h2 : b < hi) (ha : Agree lo hi w w') : EntAt w' lo hi b o x := by
  obtain ⟨u, c0, c1, c2, c3, hr⟩ := h
  exact ⟨u, (ha.cell (p := ⟨b, o, none⟩) h1 h2).trans c0, (ha.cell (p := ⟨b, o + 1, none⟩) h1 h2).trans c1, (ha.cell (p := ⟨b, o + 1 + 1, none⟩) h1 h2).trans c2, (ha.cell (p := ⟨b, o + 1 + 2, none⟩) h1 h2).trans c3, hr.agree ha⟩
theorem EntAt.wide {w : World} {lo hi lo' hi' b o : Nat} {x : M.Entry} (h : EntAt w lo hi b o x) (h1 : lo' ≤ lo) (h2 : hi ≤ hi') : EntAt w lo' hi' b o x := by
  obtain ⟨u, c0, c1, c2, c3, hr⟩ := h
  exact ⟨u, c0, c1, c2, c3, hr.wide h1 h2⟩

/-- a slice's address leads to entries -/
def RdE (w : World) (lo hi : Nat) (A : Option Addr) (L : List M.Entry) : Prop :=
  L ≠ [] → ∃ b o, A = some ⟨b, o, none⟩ ∧ lo ≤ b ∧ b < hi ∧ ∀ i x, L[i]? = some x → EntAt w lo hi b (o + i * 4) x
theorem RdE.agree {w w' : World} {lo hi : Nat} {A : Option Addr} {L : List M.Entry} (h : RdE w lo hi A L) (ha : Agree lo hi w w') : RdE w' lo hi A L := fun hn => by
  obtain ⟨b, o, e, h1, h2, hc⟩ := h hn
  exact ⟨b, o, e, h1, h2, fun i x hx => (hc i x hx).agree h1 h2 ha⟩
theorem RdE.wide {w : World} {lo hi lo' hi' : Nat} {A : Option Addr} {L : List M.Entry} (h : RdE w lo hi A L) (h1 : lo' ≤ lo) (h2 : hi ≤ hi') : RdE w lo' hi' A L := fun hn => by
  obtain ⟨b, o, e, h3, h4, hc⟩ := h hn
  exact ⟨b, o, e, by omega, by omega, fun i x hx => (hc i x hx).wide h1 h2⟩
theorem RdE.at_ {w : World} {lo hi : Nat} {A : Option Addr} {L : List M.Entry} (h : RdE w lo hi A L) {i : Nat} {x : M.Entry} (hi' : L[i]? = some x) : ∃ b o, A = some ⟨b, o, none⟩ ∧ lo ≤ b ∧ b < hi ∧ EntAt w lo hi b (o + i * 4) x := by
  obtain ⟨b, o, e, h3, h4, hc⟩ := h (by intro hx; subst hx; simp at hi')
  exact ⟨b, o, e, h3, h4, hc i x hi'⟩
theorem RdE.nil_ (w : World) (lo hi : Nat) (A : Option Addr) : RdE w lo hi A [] := fun h => absurd rfl h
theorem RdE.keep {w w' : World} {lo hi : Nat} {A : Option Addr} {L : List M.Entry} (h : RdE w lo hi A L) (hg : w.grownBy w' none) (hh : hi ≤ w.heap.size) : RdE w' lo hi A L := h.agree fun b _ h2 => (Agree.of_grown hg) b (Nat.zero_le _) (by omega)
theorem RdE.drop {w : World} {lo hi : Nat} {A : Option Addr} {L : List M.Entry} (h : RdE w lo hi A L) (k : Nat) : RdE w lo hi (A.map fun x => ⟨x.block, x.off + k * 4, none⟩) (L.drop k) := fun hn => by
  obtain ⟨b, o, rfl, h3, h4, hc⟩ := h (by intro hx; subst hx; simp at hn)
  refine ⟨b, o + k * 4, rfl, h3, h4, fun j u hu => ?_⟩
  rw [List.getElem?_drop] at hu
  rw [show o + k * 4 + j * 4 = o + (k + j) * 4 by omega]
  exact hc _ u hu
theorem RdE.take {w : World} {lo hi : Nat} {A : Option Addr} {L : List M.Entry} (h : RdE w lo hi A L) (k : Nat) : RdE w lo hi A (L.take k) := fun hn => by
  obtain ⟨b, o, rfl, h3, h4, hc⟩ := h (by intro hx; subst hx; simp at hn)
  refine ⟨b, o, rfl, h3, h4, fun j u hu => hc j u ?_⟩
  rw [List.getElem?_take] at hu
  split at hu
  · exact hu
  · cases hu

/-- a slice of entries -/
def RdEntries (w : World) (lo hi : Nat) (v : Value) (L : List M.Entry) : Prop := ∃ A c, v = .slice A L.length c ∧ L.length ≤ c ∧ RdE w lo hi A L
theorem RdEntries.agree {w w' : World} {lo hi : Nat} {v : Value} {L : List M.Entry} (h : RdEntries w lo hi v L) (ha : Agree lo hi w w') : RdEntries w' lo hi v L := by
  obtain ⟨A, c, e, hc, hr⟩ := h
  exact ⟨A, c, e, hc, hr.agree ha⟩
theorem RdEntries.wide {w : World} {lo hi lo' hi' : Nat} {v : Value} {L : List M.Entry} (h : RdEntries w lo hi v L) (h1 : lo' ≤ lo) (h2 : hi ≤ hi') : RdEntries w lo' hi' v L := by
  obtain ⟨A, c, e, hc, hr⟩ := h
  exact ⟨A, c, e, hc, hr.wide h1 h2⟩

def SmallE (L : List M.Entry) : Prop := L.length ≤ 1048576 ∧ ∀ x ∈ L, x.item.pos.length ≤ 1048576
theorem SmallE.nil_ : SmallE [] := ⟨by simp, by simp⟩
theorem SmallE.take {L : List M.Entry} (h : SmallE L) (k : Nat) : SmallE (L.take k) := ⟨by rw [List.length_take]; have := h.1; omega, fun x hx => h.2 x (List.mem_of_mem_take hx)⟩
theorem SmallE.drop {L : List M.Entry} (h : SmallE L) (k : Nat) : SmallE (L.drop k) := ⟨by rw [List.length_drop]; have := h.1; omega, fun x hx => h.2 x (List.mem_of_mem_drop hx)⟩
def SeesE (w : World) (A : Option Addr) (L : List M.Entry) : Prop := RdE w 0 w.heap.size A L ∧ SmallE L
theorem SeesE.on {w w' : World} {A : Option Addr} {L : List M.Entry} (h : SeesE w A L) (hg : w.grownBy w' none) : SeesE w' A L := ⟨(h.1.keep hg (Nat.le_refl _)).wide (Nat.le_refl _) hg.size, h.2⟩
theorem SeesE.take {w : World} {A : Option Addr} {L : List M.Entry} (h : SeesE w A L) (k : Nat) : SeesE w A (L.take k) := ⟨h.1.take k, h.2.take k⟩
theorem SeesE.drop {w : World} {A : Option Addr} {L : List M.Entry} (h : SeesE w A L) (k : Nat) : SeesE w (A.map fun x => ⟨x.block, x.off + k * 4, none⟩) (L.drop k) := ⟨h.1.drop k, h.2.drop k⟩
theorem SeesE.addr {w : World} {A : Option Addr} {L : List M.Entry} (h : SeesE w A L) (hl : 0 < L.length) : ∃ b o, A = some ⟨b, o, none⟩ := by
  obtain ⟨b, o, e, _⟩ := h.1.at_ (List.getElem?_eq_getElem hl)
  exact ⟨b, o, e⟩
def GotE (w : World) (L : List M.Entry) (e : Ending) (w' : World) : Prop := ∃ A c, e = .returned (.slice A L.length c) ∧ L.length ≤ c ∧ SeesE w' A L ∧ w.grownBy w' none
theorem gotE_rd {w w' : World} {lo : Nat} {e : Ending} {L : List M.Entry} (hs : SmallE L) (h : ∃ v, e = .returned v ∧ RdEntries w' lo w'.heap.size v L ∧ w.grownBy w' none) : GotE w L e w' := by
  obtain ⟨v, rfl, ⟨A, c, rfl, hc, hr⟩, hg⟩ := h
  exact ⟨A, c, rfl, hc, ⟨hr.wide (Nat.zero_le _) (Nat.le_refl _), hs⟩, hg⟩
end Go.Proofs.YtibbpbbgmgdpdaaGreatDoor

namespace Go.Proofs.YtibbpbbgmgdpdaaGreatDoor
open Go.RowKit
set_option linter.unusedVariables false

/-- the cells of items with their vectors' headers -/
def cellsE (LV : List (M.Entry × Value)) : List Value := LV.flatMap fun p => [.int .i64 p.1.kind, .int .i64 p.1.item.key, p.2, .int .i64 p.1.item.tags]
theorem cellsE_length (LV : List (M.Entry × Value)) : (cellsE LV).length = LV.length * 4 := by
  induction LV with
  | nil => rfl
  | cons p r ih => show ([_, _, _, _] ++ cellsE r).length = _; rw [List.length_append, ih]; simp; omega
theorem cellsE_append (A B : List (M.Entry × Value)) : cellsE (A ++ B) = cellsE A ++ cellsE B := by simp [cellsE]
theorem cellsE_one (p : M.Entry × Value) : cellsE [p] = [.int .i64 p.1.kind, .int .i64 p.1.item.key, p.2, .int .i64 p.1.item.tags] := by simp [cellsE]
theorem cellsE_at {LV : List (M.Entry × Value)} : ∀ {i : Nat} {p : M.Entry × Value}, LV[i]? = some p →
    (cellsE LV)[i * 4]? = some (.int .i64 p.1.kind) ∧ (cellsE LV)[i * 4 + 1]? = some (.int .i64 p.1.item.key) ∧ (cellsE LV)[i * 4 + 1 + 1]? = some p.2 ∧ (cellsE LV)[i * 4 + 1 + 2]? = some (.int .i64 p.1.item.tags) := by
  induction LV with
  | nil => intro i p h; simp at h
  | cons q r ih =>
    intro i p h
    have hc : cellsE (q :: r) = .int .i64 q.1.kind :: .int .i64 q.1.item.key :: q.2 :: .int .i64 q.1.item.tags :: cellsE r := rfl
    rw [hc]
    cases i with
    | zero =>
      simp at h
      subst h
      exact ⟨rfl, rfl, rfl, rfl⟩
    | succ i =>
      have := ih (i := i) (p := p) (by simpa using h)
      rw [show (i + 1) * 4 = i * 4 + 1 + 1 + 1 + 1 from by omega]
      simpa using this

theorem set4 {A rest : List Value} {m : Nat} (hA : A.length = m) (x y z t : Value) (hr : 4 ≤ rest.length) :
    ((((A ++ rest).set m x).set (m + 1) y).set (m + 1 + 1) z).set (m + 1 + 2) t = A ++ [x, y, z, t] ++ rest.drop 4 := by
  match rest, hr with
  | a :: b :: c :: d :: r, _ =>
    subst hA
    rw [List.set_append_right _ _ (Nat.le_refl _), List.set_append_right _ _ (by omega), List.set_append_right _ _ (by omega), List.set_append_right _ _ (by omega)]
    rw [show A.length + 1 + 2 - A.length = 3 by omega, show A.length + 1 + 1 - A.length = 2 by omega, show A.length + 1 - A.length = 1 by omega, Nat.sub_self]
    simp

end Go.Proofs.YtibbpbbgmgdpdaaGreatDoor
