/- Words for memory: a slice that reads as a list, blocks that agree, the reader of the draws. No program in sight. -/
import Derived.WalkKit
import Derived.WalkSpells
import Derived.WalkLawsBesides
import Derived.Handy
import Derived.Lib.Hide
namespace Go.Proofs.Ytjooangmmboogaa
open Go.RowKit

theorem ret_eq {v v' : Value} (h : v = v') : Ending.returned v = Ending.returned v' := by rw [h]
theorem ret_bool {a b : Bool} (h : a = b) : Ending.returned (.bool a) = Ending.returned (.bool b) := by rw [h]
theorem ret_int {k : IntKind} {a b : Int} (h : a = b) : Ending.returned (.int k a) = Ending.returned (.int k b) := by rw [h]

/-- the blocks from lo on, below hi, are as they were -/
def Agree (lo hi : Nat) (w w' : World) : Prop := ∀ b, lo ≤ b → b < hi → w'.heap[b]? = w.heap[b]?
theorem Agree.cell {lo hi : Nat} {w w' : World} (h : Agree lo hi w w') {p : Addr} (h1 : lo ≤ p.block) (h2 : p.block < hi) : w'.cell? p = w.cell? p := World.cell?_of_block (h _ h1 h2)
theorem Agree.frozen {lo hi : Nat} {w w' : World} (h : Agree lo hi w w') {p : Addr} (h1 : lo ≤ p.block) (h2 : p.block < hi) : w'.frozen? p = w.frozen? p := World.frozen?_of_block (h _ h1 h2)
theorem Agree.of_grown {w w' : World} (h : w.grownBy w' none) : Agree 0 w.heap.size w w' := fun b _ hb => h.block b hb (by simp)
theorem Agree.of_grown_some {w w' : World} {g : Nat} (h : w.grownBy w' (some g)) : Agree (g + 1) w.heap.size w w' := fun b h1 hb => h.block b hb (by intro e; injection e with e; omega)

/-- grownBy, further -/
theorem gb_refl (w : World) (r : Option Nat) : w.grownBy w r := World.grownBy.refl w r
theorem gb_trans {a b c : World} {r : Option Nat} (h : a.grownBy b r) (k : b.grownBy c r) : a.grownBy c r :=
  ⟨k.os.trans h.os, k.tape.trans h.tape, k.output.trans h.output, Nat.le_trans h.size k.size, fun i hi hn => (k.block i (Nat.lt_of_lt_of_le hi h.size) hn).trans (h.block i hi hn)⟩
theorem gb_some {a b : World} (h : a.grownBy b none) (r : Option Nat) : a.grownBy b r := ⟨h.os, h.tape, h.output, h.size, fun i hi _ => h.block i hi (by simp)⟩
/-- behind what wrote one of the new blocks -/
theorem gb_new {a b c : World} {r s : Option Nat} (h : a.grownBy b r) (k : b.grownBy c s) (hs : ∀ g, s = some g → a.heap.size ≤ g ∨ s = r) : a.grownBy c r :=
  ⟨k.os.trans h.os, k.tape.trans h.tape, k.output.trans h.output, Nat.le_trans h.size k.size, fun i hi hn => (k.block i (Nat.lt_of_lt_of_le hi h.size) (by
    rintro rfl
    rcases hs i rfl with h1 | h1
    · omega
    · exact hn h1)).trans (h.block i hi hn)⟩
theorem gb_alloc {a b : World} {r : Option Nat} (h : a.grownBy b r) (o : Obj) : a.grownBy (b.alloc o) r := gb_new (s := none) h (World.grownBy_alloc b o none) (by simp)
theorem gb_drew {a b : World} {r : Option Nat} (h : a.grownBy b r) : a.grownBy b.drew r := ⟨h.os, h.tape, h.output, h.size, h.block⟩
theorem gb_drewN {a b : World} {r : Option Nat} (h : a.grownBy b r) (n : Nat) : a.grownBy (b.drewN n) r := ⟨h.os, h.tape, h.output, h.size, h.block⟩
theorem gb_setCell {a b : World} {r : Option Nat} (h : a.grownBy b r) {p : Addr} (hp : a.heap.size ≤ p.block ∨ r = some p.block) (u : Value) : a.grownBy (b.setCell p u) r :=
  ⟨h.os, h.tape, h.output, by simpa [World.setCell] using h.size, fun i hi hn => (Below.heap_setCell b p u i (by
    rintro rfl
    rcases hp with hp | hp
    · omega
    · exact hn hp.symm)).trans (h.block i hi hn)⟩
theorem gb_below {a b : World} (h : a.grownBy b none) : Below a.heap.size a b := ⟨h.os, h.tape, h.output, h.size, fun i hi => h.block i hi (by simp)⟩
theorem gb_of_below {a b : World} (h : Below a.heap.size a b) (r : Option Nat) : a.grownBy b r := ⟨h.os, h.tape, h.output, h.size, fun i hi _ => h.block i hi⟩

/-- a slice's address leads to the cells xs, in a block from lo on, below hi -/
def Rd (w : World) (lo hi : Nat) (A : Option Addr) (xs : List Value) : Prop :=
  xs ≠ [] → ∃ b o, A = some ⟨b, o, none⟩ ∧ lo ≤ b ∧ b < hi ∧ ∀ j u, xs[j]? = some u → w.cell? ⟨b, o + j, none⟩ = some u
theorem Rd.agree {w w' : World} {lo hi : Nat} {A : Option Addr} {xs : List Value} (h : Rd w lo hi A xs) (ha : Agree lo hi w w') : Rd w' lo hi A xs := fun hn => by
  obtain ⟨b, o, e, h1, h2, hc⟩ := h hn
  exact ⟨b, o, e, h1, h2, fun j u hu => (ha.cell (p := ⟨b, o + j, none⟩) h1 h2).trans (hc j u hu)⟩
theorem Rd.wide {w : World} {lo hi lo' hi' : Nat} {A : Option Addr} {xs : List Value} (h : Rd w lo hi A xs) (h1 : lo' ≤ lo) (h2 : hi ≤ hi') : Rd w lo' hi' A xs := fun hn => by
  obtain ⟨b, o, e, h3, h4, hc⟩ := h hn
  exact ⟨b, o, e, by omega, by omega, hc⟩
theorem Rd.at_ {w : World} {lo hi : Nat} {A : Option Addr} {xs : List Value} (h : Rd w lo hi A xs) {j : Nat} {u : Value} (hj : xs[j]? = some u) : ∃ b o, A = some ⟨b, o, none⟩ ∧ lo ≤ b ∧ b < hi ∧ w.cell? ⟨b, o + j, none⟩ = some u := by
  obtain ⟨b, o, e, h3, h4, hc⟩ := h (by intro hx; subst hx; simp at hj)
  exact ⟨b, o, e, h3, h4, hc j u hj⟩
theorem Rd.nil_ (w : World) (lo hi : Nat) (A : Option Addr) : Rd w lo hi A [] := fun h => absurd rfl h
theorem Rd.drop {w : World} {lo hi : Nat} {A : Option Addr} {xs : List Value} (h : Rd w lo hi A xs) (k : Nat) : Rd w lo hi (A.map (·.add k)) (xs.drop k) := fun hn => by
  obtain ⟨b, o, rfl, h3, h4, hc⟩ := h (by intro hx; subst hx; simp at hn)
  refine ⟨b, o + k, ?_, h3, h4, fun j u hu => ?_⟩
  · unfold Addr.add
    split <;> simp_all
  · rw [List.getElem?_drop] at hu
    have := hc (k + j) u hu
    rw [show o + k + j = o + (k + j) from by omega]
    exact this
theorem Rd.take {w : World} {lo hi : Nat} {A : Option Addr} {xs : List Value} (h : Rd w lo hi A xs) (k : Nat) : Rd w lo hi A (xs.take k) := fun hn => by
  obtain ⟨b, o, rfl, h3, h4, hc⟩ := h (by intro hx; subst hx; simp at hn)
  refine ⟨b, o, rfl, h3, h4, fun j u hu => hc j u ?_⟩
  rw [List.getElem?_take] at hu
  split at hu
  · exact hu
  · cases hu

/-- a slice of integers of a kind -/
def RdInts (k : IntKind) (w : World) (lo hi : Nat) (v : Value) (l : List Int) : Prop :=
  ∃ A c, v = .slice A l.length c ∧ l.length ≤ c ∧ Rd w lo hi A (l.map (.int k))
theorem RdInts.agree {k : IntKind} {w w' : World} {lo hi : Nat} {v : Value} {l : List Int} (h : RdInts k w lo hi v l) (ha : Agree lo hi w w') : RdInts k w' lo hi v l := by
  obtain ⟨A, c, e, hc, hr⟩ := h
  exact ⟨A, c, e, hc, hr.agree ha⟩
theorem RdInts.wide {k : IntKind} {w : World} {lo hi lo' hi' : Nat} {v : Value} {l : List Int} (h : RdInts k w lo hi v l) (h1 : lo' ≤ lo) (h2 : hi ≤ hi') : RdInts k w lo' hi' v l := by
  obtain ⟨A, c, e, hc, hr⟩ := h
  exact ⟨A, c, e, hc, hr.wide h1 h2⟩

theorem RdInts.lit (k : IntKind) (w : World) {lo : Nat} (hlo : lo ≤ w.heap.size) (t : TypeId) (l : List Int) {cs : Array Value} (hcs : cs.toList = l.map (.int k)) :
    RdInts k (w.alloc (.cells cs t)) lo (w.heap.size + 1) (.slice (some ⟨w.heap.size, 0, none⟩) l.length l.length) l := by
  refine ⟨_, _, rfl, Nat.le_refl _, fun _ => ⟨_, _, rfl, hlo, Nat.lt_succ_self _, fun j u hu => ?_⟩⟩
  rw [← hcs] at hu
  rw [cell_of_row _ _ _ cs t (0, 0) (heap_alloc_new w _)]
  simpa using hu

theorem RdInts.lit_at (k : IntKind) {w : World} {g lo hi n : Nat} (hg : g = w.heap.size) (hlo : lo ≤ g) (hhi : g < hi) (t : TypeId) (l : List Int) {cs : Array Value} (hn : n = l.length) (hcs : cs.toList = l.map (.int k)) :
    RdInts k (w.alloc (.cells cs t)) lo hi (.slice (some ⟨g, 0, none⟩) n n) l := by
  subst hg hn
  exact (RdInts.lit k w hlo t l hcs).wide (Nat.le_refl _) hhi

theorem bytes_list (bs : List UInt8) : ∀ x ∈ bs.map (fun b => (b.toNat : Int)), 0 ≤ x ∧ x ≤ 255 := by
  intro x hx
  simp only [List.mem_map] at hx
  obtain ⟨b, _, rfl⟩ := hx
  have := b.toNat_lt
  omega

theorem quiet_here {P : Program} {f : FuncId} {args : Array Value} {w : World} {n : Nat} {v : Value}
    (h : Calls P f args (w.drewN n) fun e w' => e = .returned v ∧ w.drewN n = w') : Calls P f args (w.drewN n) fun e w'' => e = .returned v ∧ ∃ m, w'' = w.drewN m :=
  h.mono fun _ _ ⟨he, hm⟩ => ⟨he, n, hm.symm⟩
theorem gb_of_drewN {w w' : World} {r : Option Nat} (h : ∃ n, w' = w.drewN n) : w.grownBy w' r := by
  obtain ⟨n, rfl⟩ := h
  exact gb_drewN (gb_refl _ _) n

end Go.Proofs.Ytjooangmmboogaa
