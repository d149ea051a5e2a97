/- What is kept while an exact law marks its arguments and results; the marks of bytes. -/
import Derived.Test.YtibbpbbgmgdpdaaGreatDoorKeep
import Derived.Test.YtibbpbbgmgdpdaaGreatDoorEqW
import Derived.Test.YtibbpbbgmgdpdaaGreatDoorSee
import Derived.Test.YtibbpbbgmgdpdaaGreatDoorByteW
import Derived.Test.YtibbpbbgmgdpdaaGreatDoorPutIW
namespace Go.Proofs.YtibbpbbgmgdpdaaGreatDoor
open Go.RowKit
set_option linter.unusedVariables false
set_option maxRecDepth 100000

/-- since the world w0 the blocks from lo on, below hi, are as they were -/
def Held (lo hi : Nat) (w0 W : World) : Prop := Agree lo hi w0 W ∧ hi ≤ W.heap.size
theorem Held.now {lo hi : Nat} {W : World} (h : hi ≤ W.heap.size) : Held lo hi W W := ⟨fun _ _ _ => rfl, h⟩
theorem Held.on {lo hi : Nat} {w0 W W' : World} (h : Held lo hi w0 W) (hg : W.grownBy W' none) : Held lo hi w0 W' :=
  ⟨fun b h1 h2 => (hg.block b (by have := h.2; omega) (by simp)).trans (h.1 b h1 h2), by have := h.2; have := hg.size; omega⟩
theorem Held.wrote {lo hi l m : Nat} {w0 W W' : World} (h : Held lo hi w0 W) (hw : Wrote l m W W') (hd : hi ≤ l ∨ m ≤ lo) : Held lo hi w0 W' :=
  ⟨fun b h1 h2 => (hw.block b (by have := h.2; omega) (by omega)).trans (h.1 b h1 h2), by have := h.2; have := hw.size; omega⟩

/-! bytes -/
def ren8 (k : Int) (n : Nat) : List Int := (List.range n).map fun i : Nat => (k + (i : Int)) % 256
theorem ren8_length (k : Int) (n : Nat) : (ren8 k n).length = n := by simp [ren8]
theorem ren8_succ (k : Int) (n : Nat) : ren8 k (n + 1) = ren8 k n ++ [(k + n) % 256] := by simp [ren8, List.range_succ]
theorem ren8_at {k : Int} {n j : Nat} (h : j < n) : (ren8 k n)[j]? = some ((k + j) % 256) := by
  rw [ren8, List.getElem?_map, List.getElem?_range h]; rfl
theorem ren8_set (k : Int) (l : List Int) (j : Nat) (h : j < l.length) : ((ren8 k j ++ l.drop j).map (Value.int .u8)).set j (.int .u8 ((k + j) % 256)) = (ren8 k (j + 1) ++ l.drop (j + 1)).map (.int .u8) := by
  rw [List.drop_eq_getElem_cons h, List.map_append, List.map_cons, List.set_append_right _ _ (by simp [ren8_length]), List.length_map, ren8_length, Nat.sub_self, List.set_cons_zero, ren8_succ]
  simp only [List.map_append, List.map_cons, List.append_assoc, List.cons_append, List.nil_append]
/-- integers of the call's own, in a block below hi -/
def OwnIn (k : IntKind) (t : TypeId) (w : World) (lo hi : Nat) (v : Value) (l : List Int) : Prop := OwnInts k t w lo v l ∧ ∀ b, v.ownBlock = some b → b < hi
theorem OwnIn.agree {k : IntKind} {t : TypeId} {w w' : World} {lo hi : Nat} {v : Value} {l : List Int} (h : OwnIn k t w lo hi v l) (ha : Agree lo hi w w') : OwnIn k t w' lo hi v l :=
  ⟨own_agree h.1 h.2 ha, h.2⟩
theorem OwnIn.rd {k : IntKind} {t : TypeId} {w : World} {lo hi n c : Nat} {A : Option Addr} {l : List Int} (h : OwnIn k t w lo hi (.slice A n c) l) : Rd w lo w.heap.size A (l.map (.int k)) := by
  obtain ⟨A', c', e, _, hr⟩ := OwnInts.rd h.1
  injection e with e1
  subst e1
  exact hr
theorem OwnLV.rdI {w : World} {lo hi n c : Nat} {A : Option Addr} {LV : List (M.Item × Value)} (h : OwnLV w lo hi (.slice A n c) LV) : RdI w lo w.heap.size A (LV.map (·.1)) := by
  obtain ⟨A', c', e, _, hr⟩ := h.items.rd
  injection e with e1
  subst e1
  exact hr
/-- a copy of items, its blocks from lo on, below hi -/
def CopiedI (w : World) (L : List M.Item) (e : Ending) (w' : World) : Prop :=
  ∃ (A : Option Addr) (c : Nat) (LV : List (M.Item × Value)) (lo hi : Nat), e = .returned (.slice A L.length c) ∧ LV.map (·.1) = L ∧ w.heap.size ≤ lo ∧ lo ≤ hi ∧ hi ≤ w'.heap.size ∧ OwnLV w' lo hi (.slice A L.length c) LV ∧ w.grownBy w' none
theorem copiedI_own {w w' : World} {e : Ending} {L : List M.Item} (h : ∃ v, e = .returned v ∧ OwnItems w' w.heap.size v L ∧ w.grownBy w' none) : CopiedI w L e w' := by
  obtain ⟨v, rfl, ho, hg⟩ := h
  obtain ⟨A, c, rfl, hc, _⟩ := ho.rd
  obtain ⟨LV, h1, h2⟩ := ho.lv
  exact ⟨A, c, LV, _, _, rfl, h1, Nat.le_refl _, hg.size, Nat.le_refl _, h2, hg⟩
/-- integers are handed back, their block from lo on, below hi -/
def MadeN (k : IntKind) (t : TypeId) (w : World) (l : List Int) (e : Ending) (w' : World) : Prop :=
  ∃ (A : Option Addr) (c lo hi : Nat), e = .returned (.slice A l.length c) ∧ l.length ≤ c ∧ w.heap.size ≤ lo ∧ lo ≤ hi ∧ hi ≤ w'.heap.size ∧ OwnIn k t w' lo hi (.slice A l.length c) l ∧ w.grownBy w' none
theorem madeN_own {k : IntKind} {t : TypeId} {w w' : World} {e : Ending} {l : List Int} (h : ∃ v, e = .returned v ∧ OwnInts k t w' w.heap.size v l ∧ w.grownBy w' none) : MadeN k t w l e w' := by
  obtain ⟨v, rfl, ho, hg⟩ := h
  obtain ⟨A, c, rfl, hc, _⟩ := ho.rd
  exact ⟨A, c, _, _, rfl, hc, Nat.le_refl _, hg.size, Nat.le_refl _, ⟨ho, fun b hb => (World.ownsRow.lt ho b hb).2⟩, hg⟩
/-- a list of items and a yes or no are handed back, its blocks from lo on, below hi -/
def MadeP (w : World) (r : Option (List M.Item)) (e : Ending) (w' : World) : Prop :=
  ∃ (A : Option Addr) (c : Nat) (LV : List (M.Item × Value)) (lo hi : Nat), e = .returned (.tuple #[.slice A (r.getD []).length c, .bool r.isSome]) ∧ LV.map (·.1) = r.getD [] ∧ w.heap.size ≤ lo ∧ lo ≤ hi ∧ hi ≤ w'.heap.size ∧ OwnLV w' lo hi (.slice A (r.getD []).length c) LV ∧ w.grownBy w' none
theorem madeP_ans {w w' : World} {e : Ending} {r : Option (List M.Item)} (h : ∃ vs, e = .returned (.tuple vs.toArray) ∧ PutAns w' w.heap.size vs r ∧ w.grownBy w' none) : MadeP w r e w' := by
  obtain ⟨vs, rfl, ha, hg⟩ := h
  cases r with
  | none =>
    have h : vs = [.slice none 0 0, .bool false] := ha
    subst h
    refine ⟨none, 0, [], _, _, rfl, rfl, Nat.le_refl _, hg.size, Nat.le_refl _, ⟨⟨rfl, .inl ⟨rfl, rfl⟩⟩, by simp, List.Pairwise.nil, fun b hb => by simp [Value.ownBlock] at hb, by simp⟩, hg⟩
  | some L =>
    obtain ⟨v, h, ho⟩ := ha
    subst h
    obtain ⟨A, c, rfl, hc, _⟩ := ho.rd
    obtain ⟨LV, h1, h2⟩ := ho.lv
    exact ⟨A, c, LV, _, _, rfl, h1, Nat.le_refl _, hg.size, Nat.le_refl _, h2, hg⟩
end Go.Proofs.YtibbpbbgmgdpdaaGreatDoor
