/- Words for memory: items. And regions that draw their order and make memory: one walk over a class of worlds. No program in sight. -/
import Derived.Test.YtjooangmmboogaaRowB
import Derived.Test.YtjooangmmboogaaPureS
import Derived.Deep.QuietTactic
import Derived.BigQuiet
namespace Go.Proofs.Ytjooangmmboogaa
open Go.RowKit
set_option linter.unusedVariables false

/-- the world gets a name, and of it only S is kept -/
theorem wp_name {P : Program} {c : Code} {Q : Exit → Act → World → Prop} {a : Act} {w : World} (S : World → Prop) (hS : S w) (h : ∀ W, S W → c.wp P Q a W) : c.wp P Q a w := h w hS
theorem calls_name {P : Program} {f : FuncId} {args : Array Value} {Q : Ending → World → Prop} {w : World} (S : World → Prop) (hS : S w) (h : ∀ W, S W → Calls P f args W Q) : Calls P f args w Q := h w hS

/-- a world that has only grown -/
structure Later (W : World) where
  w : World
  h : W.grownBy w none
instance Later.some_ (W : World) : Nonempty (Later W) := ⟨⟨W, gb_refl W none⟩⟩
theorem Later.cell {W : World} (x : Later W) {p : Addr} {v : Value} (h : W.cell? p = some v) : x.w.cell? p = some v := x.h.cell h (by simp)
theorem wp_region_later {P : Program} {id : Nat} {Q : Exit → Act → World → Prop} {a : Act} {w : World} {l : List Oper} (hm : P.follows .mixedOrders = true) (hB : Region.lexB .any l.toArray = true)
    (h : wpQuiet P l.toArray (fun w' => ∃ x : Later w, w' = x.w) (fun a' => ∀ w', (∃ x : Later w, w' = x.w) → Q .normal a' w') l a) : (Code.region id l.toArray true).wp P Q a w :=
  wp_region_quiet (C := fun w' => ∃ x : Later w, w' = x.w) hm hB ⟨⟨_, gb_drew (gb_refl w none)⟩, rfl⟩ (by simpa using h)
theorem later_call {P : Program} {f : FuncId} {args : Array Value} {W : World} {x : Later W} {v : Value} (h : Calls P f args x.w fun e w' => e = .returned v ∧ x.w.grownBy w' none) :
    Calls P f args x.w fun e w'' => e = .returned v ∧ ∃ m : Later W, w'' = m.w :=
  h.mono fun _ w' ⟨he, hg⟩ => ⟨he, ⟨w', gb_trans x.h hg⟩, rfl⟩
theorem later_same {P : Program} {f : FuncId} {args : Array Value} {W : World} {x : Later W} {v : Value} (h : Calls P f args x.w fun e w' => e = .returned v ∧ x.w = w') :
    Calls P f args x.w fun e w'' => e = .returned v ∧ ∃ m : Later W, w'' = m.w :=
  h.mono fun _ w' ⟨he, hg⟩ => ⟨he, x, hg.symm⟩

/-- an item lies at a place -/
def ItemAt (w : World) (lo hi b o : Nat) (x : M.Item) : Prop :=
  ∃ u, w.cell? ⟨b, o, none⟩ = some (.int .i64 x.key) ∧ w.cell? ⟨b, o + 1, none⟩ = some u ∧ w.cell? ⟨b, o + 2, none⟩ = some (.int .i64 x.tags) ∧ RdInts .i64 w lo hi u x.pos
theorem ItemAt.agree {w w' : World} {lo hi b o : Nat} {x : M.Item} (h : ItemAt w lo hi b o x) (h1 : lo ≤ b) (h2 : b < hi) (ha : Agree lo hi w w') : ItemAt w' lo hi b o x := by
  obtain ⟨u, c0, c1, c2, hr⟩ := h
  exact ⟨u, (ha.cell (p := ⟨b, o, none⟩) h1 h2).trans c0, (ha.cell (p := ⟨b, o + 1, none⟩) h1 h2).trans c1, (ha.cell (p := ⟨b, o + 2, none⟩) h1 h2).trans c2, hr.agree ha⟩
theorem ItemAt.wide {w : World} {lo hi lo' hi' b o : Nat} {x : M.Item} (h : ItemAt w lo hi b o x) (h1 : lo' ≤ lo) (h2 : hi ≤ hi') : ItemAt w lo' hi' b o x := by
  obtain ⟨u, c0, c1, c2, hr⟩ := h
  exact ⟨u, c0, c1, c2, hr.wide h1 h2⟩

/-- a slice's address leads to items -/
def RdI (w : World) (lo hi : Nat) (A : Option Addr) (L : List M.Item) : Prop :=
  L ≠ [] → ∃ b o, A = some ⟨b, o, none⟩ ∧ lo ≤ b ∧ b < hi ∧ ∀ i x, L[i]? = some x → ItemAt w lo hi b (o + i * 3) x
theorem RdI.agree {w w' : World} {lo hi : Nat} {A : Option Addr} {L : List M.Item} (h : RdI w lo hi A L) (ha : Agree lo hi w w') : RdI w' lo hi A L := fun hn => by
  obtain ⟨b, o, e, h1, h2, hc⟩ := h hn
  exact ⟨b, o, e, h1, h2, fun i x hx => (hc i x hx).agree h1 h2 ha⟩
theorem RdI.wide {w : World} {lo hi lo' hi' : Nat} {A : Option Addr} {L : List M.Item} (h : RdI w lo hi A L) (h1 : lo' ≤ lo) (h2 : hi ≤ hi') : RdI w lo' hi' A L := fun hn => by
  obtain ⟨b, o, e, h3, h4, hc⟩ := h hn
  exact ⟨b, o, e, by omega, by omega, fun i x hx => (hc i x hx).wide h1 h2⟩
theorem RdI.at_ {w : World} {lo hi : Nat} {A : Option Addr} {L : List M.Item} (h : RdI w lo hi A L) {i : Nat} {x : M.Item} (hi' : L[i]? = some x) : ∃ b o, A = some ⟨b, o, none⟩ ∧ lo ≤ b ∧ b < hi ∧ ItemAt w lo hi b (o + i * 3) x := by
  obtain ⟨b, o, e, h3, h4, hc⟩ := h (by intro hx; subst hx; simp at hi')
  exact ⟨b, o, e, h3, h4, hc i x hi'⟩
theorem RdI.nil_ (w : World) (lo hi : Nat) (A : Option Addr) : RdI w lo hi A [] := fun h => absurd rfl h

/-- a slice of items -/
def RdItems (w : World) (lo hi : Nat) (v : Value) (L : List M.Item) : Prop := ∃ A c, v = .slice A L.length c ∧ L.length ≤ c ∧ RdI w lo hi A L
theorem RdItems.agree {w w' : World} {lo hi : Nat} {v : Value} {L : List M.Item} (h : RdItems w lo hi v L) (ha : Agree lo hi w w') : RdItems w' lo hi v L := by
  obtain ⟨A, c, e, hc, hr⟩ := h
  exact ⟨A, c, e, hc, hr.agree ha⟩
theorem RdItems.wide {w : World} {lo hi lo' hi' : Nat} {v : Value} {L : List M.Item} (h : RdItems w lo hi v L) (h1 : lo' ≤ lo) (h2 : hi ≤ hi') : RdItems w lo' hi' v L := by
  obtain ⟨A, c, e, hc, hr⟩ := h
  exact ⟨A, c, e, hc, hr.wide h1 h2⟩

end Go.Proofs.Ytjooangmmboogaa
