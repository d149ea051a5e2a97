/- Words for memory: a slice that reads as a list, blocks that agree, the reader of the draws. No program in sight. A block known whole; slices of the call's own. No program in sight. Words for memory: items. And regions that draw their order and make memory: one walk over a class of worlds. No program in sight. Words for memory: items of the call's own. -/
import Derived.WalkKit
import Derived.WalkSpells
import Derived.WalkLawsBesides
import Derived.Handy
import Derived.Lib.Hide
import Derived.Deep.OwnRows
import Derived.Test.YtibbpbbgmgdpdaaGreatDoorPure
import Derived.Deep.QuietTactic
import Derived.BigQuiet
import Derived.Test.YtibbpbbgmgdpdaaGreatDoorRows
namespace Go.Proofs.YtibbpbbgmgdpdaaGreatDoor
open Go.RowKit

theorem ret_eq {v v' : Value} (h : v = v') : Ending.returned v = Ending.returned v' := by rw [h]
theorem ret_bool {a b : Bool} (h : a = b) : Ending.returned (.bool a) = Ending.returned (.bool b) := by rw [h]
theorem ret_int {k : IntKind} {a b : Int} (h : a = b) : Ending.returned (.int k a) = Ending.returned (.int k b) := by rw [h]

/-- the blocks from lo on, below hi, are as they were -/
def Agree (lo hi : Nat) (w w' : World) : Prop := ∀ b, lo ≤ b → b < hi → w'.heap[b]? = w.heap[b]?
theorem Agree.cell {lo hi : Nat} {w w' : World} (h : Agree lo hi w w') {p : Addr} (h1 : lo ≤ p.block) (h2 : p.block < hi) : w'.cell? p = w.cell? p := World.cell?_of_block (h _ h1 h2)
theorem Agree.frozen {lo hi : Nat} {w w' : World} (h : Agree lo hi w w') {p : Addr} (h1 : lo ≤ p.block) (h2 : p.block < hi) : w'.frozen? p = w.frozen? p := World.frozen?_of_block (h _ h1 h2)
theorem Agree.of_grown {w w' : World} (h : w.grownBy w' none) : Agree 0 w.heap.size w w' := fun b _ hb => h.block b hb (by simp)
theorem Agree.of_grown_some {w w' : World} {g : Nat} (h : w.grownBy w' (some g)) : Agree (g + 1) w.heap.size w w' := fun b h1 hb => h.block b hb (by intro e; injection e with e; omega)

/-- grownBy, further -/
theorem gb_refl (w : World) (r : Option Nat) : w.grownBy w r := World.grownBy.refl w r
theorem gb_trans {a b c : World} {r : Option Nat} (h : a.grownBy b r) (k : b.grownBy c r) : a.grownBy c r :=
  ⟨k.os.trans h.os, k.tape.trans h.tape, k.output.trans h.output, Nat.le_trans h.size k.size, fun i hi hn => (k.block i (Nat.lt_of_lt_of_le hi h.size) hn).trans (h.block i hi hn)⟩
theorem gb_some {a b : World} (h : a.grownBy b none) (r : Option Nat) : a.grownBy b r := ⟨h.os, h.tape, h.output, h.size, fun i hi _ => h.block i hi (by simp)⟩
/-- behind what wrote one of the new blocks -/
theorem gb_new {a b c : World} {r s : Option Nat} (h : a.grownBy b r) (k : b.grownBy c s) (hs : ∀ g, s = some g → a.heap.size ≤ g ∨ s = r) : a.grownBy c r :=
  ⟨k.os.trans h.os, k.tape.trans h.tape, k.output.trans h.output, Nat.le_trans h.size k.size, fun i hi hn => (k.block i (Nat.lt_of_lt_of_le hi h.size) (by
    rintro rfl
    rcases hs i rfl with h1 | h1
    · omega
    · exact hn h1)).trans (h.block i hi hn)⟩
theorem gb_alloc {a b : World} {r : Option Nat} (h : a.grownBy b r) (o : Obj) : a.grownBy (b.alloc o) r := gb_new (s := none) h (World.grownBy_alloc b o none) (by simp)
theorem gb_drew {a b : World} {r : Option Nat} (h : a.grownBy b r) : a.grownBy b.drew r := ⟨h.os, h.tape, h.output, h.size, h.block⟩
theorem gb_drewN {a b : World} {r : Option Nat} (h : a.grownBy b r) (n : Nat) : a.grownBy (b.drewN n) r := ⟨h.os, h.tape, h.output, h.size, h.block⟩
theorem gb_setCell {a b : World} {r : Option Nat} (h : a.grownBy b r) {p : Addr} (hp : a.heap.size ≤ p.block ∨ r = some p.block) (u : Value) : a.grownBy (b.setCell p u) r :=
  ⟨h.os, h.tape, h.output, by simpa [World.setCell] using h.size, fun i hi hn => (Below.heap_setCell b p u i (by
    rintro rfl
    rcases hp with hp | hp
    · omega
    · exact hn hp.symm)).trans (h.block i hi hn)⟩
theorem gb_below {a b : World} (h : a.grownBy b none) : Below a.heap.size a b := ⟨h.os, h.tape, h.output, h.size, fun i hi => h.block i hi (by simp)⟩
theorem gb_of_below {a b : World} (h : Below a.heap.size a b) (r : Option Nat) : a.grownBy b r := ⟨h.os, h.tape, h.output, h.size, fun i hi _ => h.block i hi⟩

/-- a slice's address leads to the cells xs, in a block from lo on, below hi -/
def Rd (w : World) (lo hi : Nat) (A : Option Addr) (xs : List Value) : Prop :=
  xs ≠ [] → ∃ b o, A = some ⟨b, o, none⟩ ∧ lo ≤ b ∧ b < hi ∧ ∀ j u, xs[j]? = some u → w.cell? ⟨b, o + j, none⟩ = some u
theorem Rd.agree {w w' : World} {lo hi : Nat} {A : Option Addr} {xs : List Value} (h : Rd w lo hi A xs) (ha : Agree lo hi w w') : Rd w' lo hi A xs := fun hn => by
  obtain ⟨b, o, e, h1, h2, hc⟩ := h hn
  exact ⟨b, o, e, h1, h2, fun j u hu => (ha.cell (p := ⟨b, o + j, none⟩) h1 h2).trans (hc j u hu)⟩
theorem Rd.wide {w : World} {lo hi lo' hi' : Nat} {A : Option Addr} {xs : List Value} (h : Rd w lo hi A xs) (h1 : lo' ≤ lo) (h2 : hi ≤ hi') : Rd w lo' hi' A xs := fun hn => by
  obtain ⟨b, o, e, h3, h4, hc⟩ := h hn
  exact ⟨b, o, e, by omega, by omega, hc⟩
theorem Rd.at_ {w : World} {lo hi : Nat} {A : Option Addr} {xs : List Value} (h : Rd w lo hi A xs) {j : Nat} {u : Value} (hj : xs[j]? = some u) : ∃ b o, A = some ⟨b, o, none⟩ ∧ lo ≤ b ∧ b < hi ∧ w.cell? ⟨b, o + j, none⟩ = some u := by
  obtain ⟨b, o, e, h3, h4, hc⟩ := h (by intro hx; subst hx; simp at hj)
  exact ⟨b, o, e, h3, h4, hc j u hj⟩
theorem Rd.nil_ (w : World) (lo hi : Nat) (A : Option Addr) : Rd w lo hi A [] := fun h => absurd rfl h
theorem Rd.drop {w : World} {lo hi : Nat} {A : Option Addr} {xs : List Value} (h : Rd w lo hi A xs) (k : Nat) : Rd w lo hi (A.map (·.add k)) (xs.drop k) := fun hn => by
  obtain ⟨b, o, rfl, h3, h4, hc⟩ := h (by intro hx; subst hx; simp at hn)
  refine ⟨b, o + k, ?_, h3, h4, fun j u hu => ?_⟩
  · unfold Addr.add
    split <;> simp_all
  · rw [List.getElem?_drop] at hu
    have := hc (k + j) u hu
    rw [show o + k + j = o + (k + j) from by omega]
    exact this
theorem Rd.take {w : World} {lo hi : Nat} {A : Option Addr} {xs : List Value} (h : Rd w lo hi A xs) (k : Nat) : Rd w lo hi A (xs.take k) := fun hn => by
  obtain ⟨b, o, rfl, h3, h4, hc⟩ := h (by intro hx; subst hx; simp at hn)
  refine ⟨b, o, rfl, h3, h4, fun j u hu => hc j u ?_⟩
  rw [List.getElem?_take] at hu
  split at hu
  · exact hu
  · cases hu

/-- a slice of integers of a kind -/
def RdInts (k : IntKind) (w : World) (lo hi : Nat) (v : Value) (l : List Int) : Prop :=
  ∃ A c, v = .slice A l.length c ∧ l.length ≤ c ∧ Rd w lo hi A (l.map (.int k))
theorem RdInts.agree {k : IntKind} {w w' : World} {lo hi : Nat} {v : Value} {l : List Int} (h : RdInts k w lo hi v l) (ha : Agree lo hi w w') : RdInts k w' lo hi v l := by
  obtain ⟨A, c, e, hc, hr⟩ := h
  exact ⟨A, c, e, hc, hr.agree ha⟩
theorem RdInts.wide {k : IntKind} {w : World} {lo hi lo' hi' : Nat} {v : Value} {l : List Int} (h : RdInts k w lo hi v l) (h1 : lo' ≤ lo) (h2 : hi ≤ hi') : RdInts k w lo' hi' v l := by
  obtain ⟨A, c, e, hc, hr⟩ := h
  exact ⟨A, c, e, hc, hr.wide h1 h2⟩

theorem RdInts.lit (k : IntKind) (w : World) {lo : Nat} (hlo : lo ≤ w.heap.size) (t : TypeId) (l : List Int) {cs : Array Value} (hcs : cs.toList = l.map (.int k)) :
    RdInts k (w.alloc (.cells cs t)) lo (w.heap.size + 1) (.slice (some ⟨w.heap.size, 0, none⟩) l.length l.length) l := by
  refine ⟨_, _, rfl, Nat.le_refl _, fun _ => ⟨_, _, rfl, hlo, Nat.lt_succ_self _, fun j u hu => ?_⟩⟩
  rw [← hcs] at hu
  rw [cell_of_row _ _ _ cs t (0, 0) (heap_alloc_new w _)]
  simpa using hu

theorem RdInts.lit_at (k : IntKind) {w : World} {g lo hi n : Nat} (hg : g = w.heap.size) (hlo : lo ≤ g) (hhi : g < hi) (t : TypeId) (l : List Int) {cs : Array Value} (hn : n = l.length) (hcs : cs.toList = l.map (.int k)) :
    RdInts k (w.alloc (.cells cs t)) lo hi (.slice (some ⟨g, 0, none⟩) n n) l := by
  subst hg hn
  exact (RdInts.lit k w hlo t l hcs).wide (Nat.le_refl _) hhi

theorem bytes_list (bs : List UInt8) : ∀ x ∈ bs.map (fun b => (b.toNat : Int)), 0 ≤ x ∧ x ≤ 255 := by
  intro x hx
  simp only [List.mem_map] at hx
  obtain ⟨b, _, rfl⟩ := hx
  have := b.toNat_lt
  omega

theorem quiet_here {P : Program} {f : FuncId} {args : Array Value} {w : World} {n : Nat} {v : Value}
    (h : Calls P f args (w.drewN n) fun e w' => e = .returned v ∧ w.drewN n = w') : Calls P f args (w.drewN n) fun e w'' => e = .returned v ∧ ∃ m, w'' = w.drewN m :=
  h.mono fun _ _ ⟨he, hm⟩ => ⟨he, n, hm.symm⟩
theorem gb_of_drewN {w w' : World} {r : Option Nat} (h : ∃ n, w' = w.drewN n) : w.grownBy w' r := by
  obtain ⟨n, rfl⟩ := h
  exact gb_drewN (gb_refl _ _) n

end Go.Proofs.YtibbpbbgmgdpdaaGreatDoor

namespace Go.Proofs.YtibbpbbgmgdpdaaGreatDoor
open Go.RowKit
set_option linter.unusedVariables false

/-- block g is just the cells cs, of elements of type t, none frozen -/
def Row (w : World) (g : Nat) (t : TypeId) (cs : List Value) : Prop := w.heap[g]? = some (.cells cs.toArray t (0, 0))
section
variable {w w' : World} {g : Nat} {t : TypeId} {cs : List Value}
theorem Row.lt (h : Row w g t cs) : g < w.heap.size := lt_of_block h
theorem Row.cell (h : Row w g t cs) (i : Nat) : w.cell? ⟨g, i, none⟩ = cs[i]? := by
  rw [cell_of_row w g i cs.toArray t (0, 0) h]; simp
theorem Row.frozen (h : Row w g t cs) (i : Nat) : w.frozen? ⟨g, i, none⟩ = false := by unfold Row at h; simp [World.frozen?, h]
theorem Row.new (w : World) (t : TypeId) {ca : Array Value} (h : ca.toList = cs) : Row (w.alloc (.cells ca t)) w.heap.size t cs := by
  subst h; exact heap_alloc_new w _
theorem Row.set_ (h : Row w g t cs) (i : Nat) (u : Value) : Row (w.setCell ⟨g, i, none⟩ u) g t (cs.set i u) := by
  unfold Row at h ⊢
  simp [World.setCell, Array.getElem?_modify, h]
theorem Row.of_block (h : Row w g t cs) (e : w'.heap[g]? = w.heap[g]?) : Row w' g t cs := e.trans h
theorem Row.alloc (h : Row w g t cs) (o : Obj) : Row (w.alloc o) g t cs := (Below.heap_alloc w o g h.lt).trans h
theorem Row.far (h : Row w g t cs) {p : Addr} (hp : g ≠ p.block) (u : Value) : Row (w.setCell p u) g t cs := (Below.heap_setCell w p u g hp).trans h
theorem Row.drewN (h : Row w g t cs) (n : Nat) : Row (w.drewN n) g t cs := h
theorem Row.grown {r : Option Nat} (h : Row w g t cs) (hg : w.grownBy w' r) (hne : some g ≠ r) : Row w' g t cs := (hg.block g h.lt hne).trans h
theorem Row.owns (h : Row w g t cs) {base n cap size : Nat} (hb : base ≤ g) (hn : n ≤ cap) (hm : cap ≤ maxLen) (hs : cs.length = cap * size) :
    w.ownsRow base t size (.slice (some ⟨g, 0, none⟩) n cap) n (cs.take (n * size)) := by
  refine ⟨?_, .inr ⟨g, cap, cs.toArray, rfl, hb, h, hn, hm, by simpa using hs, by simp⟩⟩
  rw [List.length_take, hs]
  exact Nat.min_eq_left (Nat.mul_le_mul_right _ hn)
end

theorem fill_step {α : Type} (f : Int → α) (z : α) (l : List Int) (k : Nat) (hk : k < l.length) :
    ((l.take k).map f ++ List.replicate (l.length - k) z).set k (f l[k]) = (l.take (k + 1)).map f ++ List.replicate (l.length - (k + 1)) z := by
  have e : l.length - k = (l.length - (k + 1)) + 1 := by omega
  rw [e, List.replicate_succ, List.set_append_right _ _ (by simp; omega)]
  rw [show k - ((l.take k).map f).length = 0 from by simp; omega]
  rw [List.take_succ_eq_append_getElem hk]
  simp only [List.set_cons_zero, List.map_append, List.map_cons, List.map_nil, List.append_assoc, List.cons_append, List.nil_append]

/-- an owned slice reads as what it owns -/
theorem rd_of_owns {w : World} {lo : Nat} {e : TypeId} {size n c : Nat} {A : Option Addr} {xs : List Value} (h : w.ownsRow lo e size (.slice A n c) n xs) : Rd w lo w.heap.size A xs := fun hx => by
  obtain ⟨hl, h2⟩ := h
  rcases h2 with ⟨hv, hn⟩ | ⟨g, cap, cur, hv, hg, hh, hnc, hcm, hcs, htake⟩
  · subst hn
    exact absurd (List.eq_nil_of_length_eq_zero (by simpa using hl)) hx
  · injection hv with hA _ _
    refine ⟨g, 0, hA, hg, lt_of_block hh, fun j u hu => ?_⟩
    rw [Nat.zero_add, cell_of_row w g j cur e (0, 0) hh]
    rw [← htake, List.getElem?_take] at hu
    split at hu
    · simpa using hu
    · cases hu

/-- a slice of integers of the call's own -/
def OwnInts (k : IntKind) (t : TypeId) (w : World) (lo : Nat) (v : Value) (l : List Int) : Prop := w.ownsRow lo t 1 v l.length (l.map (.int k))
theorem OwnInts.rd {k : IntKind} {t : TypeId} {w : World} {lo : Nat} {v : Value} {l : List Int} (h : OwnInts k t w lo v l) : RdInts k w lo w.heap.size v l := by
  have h' := h
  rcases h.2 with ⟨rfl, hn⟩ | ⟨g, cap, cur, rfl, hg, hh, hnc, hcm, hcs, htake⟩
  · have hl : l = [] := List.eq_nil_of_length_eq_zero hn
    subst hl
    exact ⟨none, 0, rfl, Nat.le_refl _, Rd.nil_ _ _ _ _⟩
  · exact ⟨_, _, rfl, hnc, rd_of_owns h'⟩
theorem OwnInts.grown {k : IntKind} {t : TypeId} {w w' : World} {lo : Nat} {v : Value} {l : List Int} {r : Option Nat} (h : OwnInts k t w lo v l) (hg : w.grownBy w' r) (hr : ∀ g, r = some g → g < lo) : OwnInts k t w' lo v l := by
  refine h.kept hg ?_
  cases hv : v.ownBlock with
  | none => exact .inl rfl
  | some b =>
    refine .inr fun e => ?_
    have h1 := (h.lt b hv).1
    have h2 := hr b e.symm
    omega
theorem OwnInts.set_ {k : IntKind} {t : TypeId} {w : World} {lo : Nat} {v : Value} {l : List Int} (h : OwnInts k t w lo v l) {p : Addr} (hp : p.block < lo) (u : Value) : OwnInts k t (w.setCell p u) lo v l := ownsRow_setCell_below h hp u
theorem OwnInts.wide {k : IntKind} {t : TypeId} {w : World} {lo lo' : Nat} {v : Value} {l : List Int} (h : OwnInts k t w lo v l) (hl : lo' ≤ lo) : OwnInts k t w lo' v l := by
  refine ⟨h.1, ?_⟩
  rcases h.2 with h0 | ⟨g, cap, cur, hv, hg, r⟩
  · exact .inl h0
  · exact .inr ⟨g, cap, cur, hv, by omega, r⟩

theorem own_drewN {w : World} {base : Nat} {e : TypeId} {size : Nat} {v : Value} {n : Nat} {xs : List Value} (h : w.ownsRow base e size v n xs) (k : Nat) : (w.drewN k).ownsRow base e size v n xs := h

theorem one_cell_new {w : World} {t : TypeId} {x : Value} : ∀ (j : Nat) (u : Value), [x][j]? = some u → (w.alloc (.cells #[x] t)).cell? ((⟨w.heap.size, 0, none⟩ : Addr).add j) = some u := by
  intro j u hu
  match j, hu with
  | 0, hu =>
    simp at hu
    subst hu
    rw [show (⟨w.heap.size, 0, none⟩ : Addr).add 0 = ⟨w.heap.size, 0, none⟩ from by simp [Addr.add], cell_of_row _ _ _ #[x] t (0, 0) (heap_alloc_new w _)]
    rfl
theorem one_cell_at {w : World} {t : TypeId} {x : Value} {g : Nat} (hg : g = w.heap.size) : ∀ (j : Nat) (u : Value), [x][j]? = some u → (w.alloc (.cells #[x] t)).cell? ((⟨g, 0, none⟩ : Addr).add j) = some u := by
  subst hg
  exact one_cell_new
theorem one_cells {x : Value} (h : x.oneCell' = true) : ∀ u ∈ [x], u.oneCell' = true := by
  intro u hu
  simp at hu
  subst hu
  exact h

end Go.Proofs.YtibbpbbgmgdpdaaGreatDoor

namespace Go.Proofs.YtibbpbbgmgdpdaaGreatDoor
open Go.RowKit
set_option linter.unusedVariables false

/-- the world gets a name, and of it only S is kept -/
theorem wp_name {P : Program} {c : Code} {Q : Exit → Act → World → Prop} {a : Act} {w : World} (S : World → Prop) (hS : S w) (h : ∀ W, S W → c.wp P Q a W) : c.wp P Q a w := h w hS
theorem calls_name {P : Program} {f : FuncId} {args : Array Value} {Q : Ending → World → Prop} {w : World} (S : World → Prop) (hS : S w) (h : ∀ W, S W → Calls P f args W Q) : Calls P f args w Q := h w hS

/-- a world that has only grown -/
structure Later (W : World) where
  w : World
  h : W.grownBy w none
instance Later.some_ (W : World) : Nonempty (Later W) := ⟨⟨W, gb_refl W none⟩⟩
theorem Later.cell {W : World} (x : Later W) {p : Addr} {v : Value} (h : W.cell? p = some v) : x.w.cell? p = some v := x.h.cell h (by simp)
theorem wp_region_later {P : Program} {id : Nat} {Q : Exit → Act → World → Prop} {a : Act} {w : World} {l : List Oper} (hm : P.follows .mixedOrders = true) (hB : Region.lexB .any l.toArray = true)
    (h : wpQuiet P l.toArray (fun w' => ∃ x : Later w, w' = x.w) (fun a' => ∀ w', (∃ x : Later w, w' = x.w) → Q .normal a' w') l a) : (Code.region id l.toArray true).wp P Q a w :=
  wp_region_quiet (C := fun w' => ∃ x : Later w, w' = x.w) hm hB ⟨⟨_, gb_drew (gb_refl w none)⟩, rfl⟩ (by simpa using h)
theorem later_call {P : Program} {f : FuncId} {args : Array Value} {W : World} {x : Later W} {v : Value} (h : Calls P f args x.w fun e w' => e = .returned v ∧ x.w.grownBy w' none) :
    Calls P f args x.w fun e w'' => e = .returned v ∧ ∃ m : Later W, w'' = m.w :=
  h.mono fun _ w' ⟨he, hg⟩ => ⟨he, ⟨w', gb_trans x.h hg⟩, rfl⟩
theorem later_same {P : Program} {f : FuncId} {args : Array Value} {W : World} {x : Later W} {v : Value} (h : Calls P f args x.w fun e w' => e = .returned v ∧ x.w = w') :
    Calls P f args x.w fun e w'' => e = .returned v ∧ ∃ m : Later W, w'' = m.w :=
  h.mono fun _ w' ⟨he, hg⟩ => ⟨he, x, hg.symm⟩

/-- an item lies at a place -/
def ItemAt (w : World) (lo hi b o : Nat) (x : M.Item) : Prop :=
  ∃ u, w.cell? ⟨b, o, none⟩ = some (.int .i64 x.key) ∧ w.cell? ⟨b, o + 1, none⟩ = some u ∧ w.cell? ⟨b, o + 2, none⟩ = some (.int .i64 x.tags) ∧ RdInts .i64 w lo hi u x.pos
theorem ItemAt.agree {w w' : World} {lo hi b o : Nat} {x : M.Item} (h : ItemAt w lo hi b o x) (h1 : lo ≤ b) (h2 : b < hi) (ha : Agree lo hi w w') : ItemAt w' lo hi b o x := by
  obtain ⟨u, c0, c1, c2, hr⟩ := h
  exact ⟨u, (ha.cell (p := ⟨b, o, none⟩) h1 h2).trans c0, (ha.cell (p := ⟨b, o + 1, none⟩) h1 h2).trans c1, (ha.cell (p := ⟨b, o + 2, none⟩) h1 h2).trans c2, hr.agree ha⟩
theorem ItemAt.wide {w : World} {lo hi lo' hi' b o : Nat} {x : M.Item} (h : ItemAt w lo hi b o x) (h1 : lo' ≤ lo) (h2 : hi ≤ hi') : ItemAt w lo' hi' b o x := by
  obtain ⟨u, c0, c1, c2, hr⟩ := h
  exact ⟨u, c0, c1, c2, hr.wide h1 h2⟩

/-- a slice's address leads to items -/
def RdI (w : World) (lo hi : Nat) (A : Option Addr) (L : List M.Item) : Prop :=
  L ≠ [] → ∃ b o, A = some ⟨b, o, none⟩ ∧ lo ≤ b ∧ b < hi ∧ ∀ i x, L[i]? = some x → ItemAt w lo hi b (o + i * 3) x
theorem RdI.agree {w w' : World} {lo hi : Nat} {A : Option Addr} {L : List M.Item} (h : RdI w lo hi A L) (ha : Agree lo hi w w') : RdI w' lo hi A L := fun hn => by
  obtain ⟨b, o, e, h1, h2, hc⟩ := h hn
  exact ⟨b, o, e, h1, h2, fun i x hx => (hc i x hx).agree h1 h2 ha⟩
theorem RdI.wide {w : World} {lo hi lo' hi' : Nat} {A : Option Addr} {L : List M.Item} (h : RdI w lo hi A L) (h1 : lo' ≤ lo) (h2 : hi ≤ hi') : RdI w lo' hi' A L := fun hn => by
  obtain ⟨b, o, e, h3, h4, hc⟩ := h hn
  exact ⟨b, o, e, by omega, by omega, fun i x hx => (hc i x hx).wide h1 h2⟩
theorem RdI.at_ {w : World} {lo hi : Nat} {A : Option Addr} {L : List M.Item} (h : RdI w lo hi A L) {i : Nat} {x : M.Item} (hi' : L[i]? = some x) : ∃ b o, A = some ⟨b, o, none⟩ ∧ lo ≤ b ∧ b < hi ∧ ItemAt w lo hi b (o + i * 3) x := by
  obtain ⟨b, o, e, h3, h4, hc⟩ := h (by intro hx; subst hx; simp at hi')
  exact ⟨b, o, e, h3, h4, hc i x hi'⟩
theorem RdI.nil_ (w : World) (lo hi : Nat) (A : Option Addr) : RdI w lo hi A [] := fun h => absurd rfl h

/-- a slice of items -/
def RdItems (w : World) (lo hi : Nat) (v : Value) (L : List M.Item) : Prop := ∃ A c, v = .slice A L.length c ∧ L.length ≤ c ∧ RdI w lo hi A L
theorem RdItems.agree {w w' : World} {lo hi : Nat} {v : Value} {L : List M.Item} (h : RdItems w lo hi v L) (ha : Agree lo hi w w') : RdItems w' lo hi v L := by
  obtain ⟨A, c, e, hc, hr⟩ := h
  exact ⟨A, c, e, hc, hr.agree ha⟩
theorem RdItems.wide {w : World} {lo hi lo' hi' : Nat} {v : Value} {L : List M.Item} (h : RdItems w lo hi v L) (h1 : lo' ≤ lo) (h2 : hi ≤ hi') : RdItems w lo' hi' v L := by
  obtain ⟨A, c, e, hc, hr⟩ := h
  exact ⟨A, c, e, hc, hr.wide h1 h2⟩

end Go.Proofs.YtibbpbbgmgdpdaaGreatDoor

namespace Go.Proofs.YtibbpbbgmgdpdaaGreatDoor
open Go.RowKit
set_option linter.unusedVariables false

/-- the cells of items with their vectors' headers -/
def cellsI (LV : List (M.Item × Value)) : List Value := LV.flatMap fun p => [.int .i64 p.1.key, p.2, .int .i64 p.1.tags]
theorem cellsI_length (LV : List (M.Item × Value)) : (cellsI LV).length = LV.length * 3 := by
  induction LV with
  | nil => rfl
  | cons p r ih => show ([_, _, _] ++ cellsI r).length = _; rw [List.length_append, ih]; simp; omega
theorem cellsI_append (A B : List (M.Item × Value)) : cellsI (A ++ B) = cellsI A ++ cellsI B := by simp [cellsI]
theorem cellsI_one (p : M.Item × Value) : cellsI [p] = [.int .i64 p.1.key, p.2, .int .i64 p.1.tags] := by simp [cellsI]
theorem cellsI_at {LV : List (M.Item × Value)} : ∀ {i : Nat} {p : M.Item × Value}, LV[i]? = some p →
    (cellsI LV)[i * 3]? = some (.int .i64 p.1.key) ∧ (cellsI LV)[i * 3 + 1]? = some p.2 ∧ (cellsI LV)[i * 3 + 2]? = some (.int .i64 p.1.tags) := by
  induction LV with
  | nil => intro i p h; simp at h
  | cons q r ih =>
    intro i p h
    have hc : cellsI (q :: r) = .int .i64 q.1.key :: q.2 :: .int .i64 q.1.tags :: cellsI r := rfl
    rw [hc]
    cases i with
    | zero =>
      simp at h
      subst h
      exact ⟨rfl, rfl, rfl⟩
    | succ i =>
      have := ih (i := i) (p := p) (by simpa using h)
      rw [show (i + 1) * 3 = i * 3 + 1 + 1 + 1 from by omega]
      simpa using this

/-- a slice of items of the call's own, each vector in a block of its own -/
def OwnItems (w : World) (lo : Nat) (v : Value) (L : List M.Item) : Prop :=
  ∃ LV : List (M.Item × Value), LV.map (·.1) = L ∧ w.ownsRow lo 59 3 v LV.length (cellsI LV) ∧ (∀ p ∈ LV, OwnInts .i64 3 w lo p.2 p.1.pos) ∧
    LV.Pairwise (fun p q => p.2.ownBlock = none ∨ p.2.ownBlock ≠ q.2.ownBlock)

theorem own_ge {w : World} {lo size n : Nat} {e : TypeId} {v : Value} {xs : List Value} {r : Option Nat} (h : w.ownsRow lo e size v n xs) (hr : ∀ g, r = some g → g < lo) : v.ownBlock = none ∨ v.ownBlock ≠ r := by
  cases hv : v.ownBlock with
  | none => exact .inl rfl
  | some b =>
    refine .inr fun e => ?_
    have h1 := (h.lt b hv).1
    have h2 := hr b e.symm
    omega
theorem OwnItems.grown {w w' : World} {lo : Nat} {v : Value} {L : List M.Item} {r : Option Nat} (h : OwnItems w lo v L) (hg : w.grownBy w' r) (hr : ∀ g, r = some g → g < lo) : OwnItems w' lo v L := by
  obtain ⟨LV, h1, h2, h3, h4⟩ := h
  exact ⟨LV, h1, h2.kept hg (own_ge h2 hr), fun p hp => (h3 p hp).grown hg hr, h4⟩
theorem OwnItems.wide {w : World} {lo lo' : Nat} {v : Value} {L : List M.Item} (h : OwnItems w lo v L) (hl : lo' ≤ lo) : OwnItems w lo' v L := by
  obtain ⟨LV, h1, h2, h3, h4⟩ := h
  refine ⟨LV, h1, ⟨h2.1, ?_⟩, fun p hp => (h3 p hp).wide hl, h4⟩
  rcases h2.2 with h0 | ⟨g, cap, cur, hv, hg, r⟩
  · exact .inl h0
  · exact .inr ⟨g, cap, cur, hv, by omega, r⟩
theorem OwnItems.rd {w : World} {lo : Nat} {v : Value} {L : List M.Item} (h : OwnItems w lo v L) : RdItems w lo w.heap.size v L := by
  obtain ⟨LV, rfl, h2, h3, h4⟩ := h
  rcases h2.2 with ⟨rfl, hn⟩ | ⟨g, cap, cur, rfl, hg, hh, hnc, hcm, hcs, htake⟩
  · have hl : LV = [] := List.eq_nil_of_length_eq_zero hn
    subst hl
    exact ⟨none, 0, rfl, Nat.le_refl _, RdI.nil_ _ _ _ _⟩
  · refine ⟨some ⟨g, 0, none⟩, cap, by rw [List.length_map], by rw [List.length_map]; exact hnc, fun _ => ⟨g, 0, rfl, hg, lt_of_block hh, fun i x hx => ?_⟩⟩
    rw [List.getElem?_map] at hx
    obtain ⟨p, hp, rfl⟩ := Option.map_eq_some_iff.1 hx
    have hil : i < LV.length := (List.getElem?_eq_some_iff.1 hp).1
    obtain ⟨c0, c1, c2⟩ := cellsI_at hp
    have hr := fun j (hj : j < LV.length * 3) => h2.cellAt j hj
    refine ⟨p.2, ?_, ?_, ?_, (h3 p (List.mem_of_getElem? hp)).rd⟩
    · rw [Nat.zero_add, hr _ (by omega)]; exact c0
    · rw [Nat.zero_add, hr _ (by omega)]; exact c1
    · rw [Nat.zero_add, hr _ (by omega)]; exact c2

/-- one item more -/
theorem OwnItems.push {w : World} {lo : Nat} {v' : Value} {LV : List (M.Item × Value)} {p : M.Item × Value} (h2 : w.ownsRow lo 59 3 v' (LV.length + 1) (cellsI LV ++ cellsI [p])) (h3 : ∀ q ∈ LV, OwnInts .i64 3 w lo q.2 q.1.pos)
    (h4 : LV.Pairwise (fun p q => p.2.ownBlock = none ∨ p.2.ownBlock ≠ q.2.ownBlock)) (h5 : OwnInts .i64 3 w lo p.2 p.1.pos) (h6 : ∀ q ∈ LV, q.2.ownBlock = none ∨ q.2.ownBlock ≠ p.2.ownBlock) :
    OwnItems w lo v' (LV.map (·.1) ++ [p.1]) := by
  refine ⟨LV ++ [p], by simp, by rw [← cellsI_append] at h2; simpa using h2, fun q hq => ?_, ?_⟩
  · rw [List.mem_append] at hq
    rcases hq with hq | hq
    · exact h3 q hq
    · simp at hq; subst hq; exact h5
  · rw [List.pairwise_append]
    exact ⟨h4, by simp, fun q hq r hr => by simp at hr; subst hr; exact h6 q hq⟩

theorem set3 {A rest : List Value} {m : Nat} (hA : A.length = m) (x y z : Value) (hr : 3 ≤ rest.length) :
    (((A ++ rest).set m x).set (m + 1) y).set (m + 2) z = A ++ [x, y, z] ++ rest.drop 3 := by
  match rest, hr with
  | a :: b :: c :: r, _ =>
    subst hA
    rw [List.set_append_right _ _ (Nat.le_refl _), List.set_append_right _ _ (by omega), List.set_append_right _ _ (by omega)]
    simp

theorem own_types' {w : World} {lo lo' size size' n n' : Nat} {v v' : Value} {xs xs' : List Value} (h : w.ownsRow lo 3 size v n xs) (h' : w.ownsRow lo' 59 size' v' n' xs') : v.ownBlock = none ∨ v.ownBlock ≠ v'.ownBlock := by
  rcases h.2 with ⟨rfl, _⟩ | ⟨g, cap, cur, rfl, _, hh, _⟩
  · exact .inl rfl
  · refine .inr fun e1 => ?_
    rcases h'.2 with ⟨rfl, _⟩ | ⟨g', cap', cur', rfl, _, hh', _⟩
    · simp [Value.ownBlock] at e1
    · simp only [Value.ownBlock, Option.some.injEq] at e1
      subst e1
      rw [hh] at hh'
      injection hh' with h3
      injection h3 with _ h4
      exact absurd h4 (by decide)

end Go.Proofs.YtibbpbbgmgdpdaaGreatDoor
