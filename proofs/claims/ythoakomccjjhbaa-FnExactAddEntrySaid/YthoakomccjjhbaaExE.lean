/- What is kept while an exact law marks entries. -/
import Derived.Test.YthoakomccjjhbaaExK
import Derived.Test.YthoakomccjjhbaaMarkE
import Derived.Test.YthoakomccjjhbaaExactE
namespace Go.Proofs.Ythoakomccjjhbaa
open Go.RowKit
set_option linter.unusedVariables false
set_option maxRecDepth 100000

theorem OwnLE.rdE {w : World} {lo hi n c : Nat} {A : Option Addr} {LV : List (M.Entry × Value)} (h : OwnLE w lo hi (.slice A n c) LV) : RdE w lo w.heap.size A (LV.map (·.1)) := by
  obtain ⟨A', c', e, _, hr⟩ := h.items.rd
  injection e with e1
  subst e1
  exact hr
/-- entries are handed back, their blocks from lo on, below hi -/
def MadeE (w : World) (L : List M.Entry) (e : Ending) (w' : World) : Prop :=
  ∃ (A : Option Addr) (c : Nat) (LV : List (M.Entry × Value)) (lo hi : Nat), e = .returned (.slice A L.length c) ∧ L.length ≤ c ∧ LV.map (·.1) = L ∧ w.heap.size ≤ lo ∧ lo ≤ hi ∧ hi ≤ w'.heap.size ∧ OwnLE w' lo hi (.slice A L.length c) LV ∧ w.grownBy w' none
theorem madeE_own {w w' : World} {e : Ending} {L : List M.Entry} (h : ∃ v, e = .returned v ∧ OwnEntries w' w.heap.size v L ∧ w.grownBy w' none) : MadeE w L e w' := by
  obtain ⟨v, rfl, ho, hg⟩ := h
  obtain ⟨A, c, rfl, hc, _⟩ := ho.rd
  obtain ⟨LV, h1, h2⟩ := ho.lv
  exact ⟨A, c, LV, _, _, rfl, hc, h1, Nat.le_refl _, hg.size, Nat.le_refl _, h2, hg⟩
theorem tes_any {w : World} {A : Option Addr} {c : Nat} {L : List M.Entry} (hr : RdE w 0 w.heap.size A L) (hs : SmallE L) : Calls Try.prog 65 #[.slice A L.length c] w (MadeE w L) :=
  (toEntryS_any w A c 0 w.heap.size L hs.1 hs.2 hr (Nat.le_refl _)).mono fun _ _ h => madeE_own h
theorem mes_any {w : World} {A : Option Addr} {c lo hi n : Nat} {LV : List (M.Entry × Value)} {k : Int} (hn : n = LV.length) (hs : SmallE (LV.map (·.1))) (ho : OwnLE w lo hi (.slice A n c) LV) (h0 : 0 ≤ k) (h1 : k ≤ 3298000000000) :
    Calls Try.prog 68 #[.slice A n c, .int .i64 k] w fun e w' => e = .returned (.int .i64 (k + szE LV)) ∧ OwnLE w' lo hi (.slice A n c) (renLE k LV) ∧ Wrote lo hi w w' := by
  subst hn
  exact markEntryS_any w A c lo hi LV k (by have := hs.1; rwa [List.length_map] at this) (fun p hp => hs.2 p.1 (List.mem_map_of_mem hp)) ho h0 h1
theorem szE_small {LV : List (M.Entry × Value)} (hs : SmallE (LV.map (·.1))) : szE LV ≤ 1099514773504 := by
  have h1 := szE_le LV (fun p hp => hs.2 p.1 (List.mem_map_of_mem hp))
  have h2 := hs.1
  rw [List.length_map] at h2
  omega
theorem hes_any {w : World} {A : Option Addr} {c lo hi n : Nat} {LV : List (M.Entry × Value)} {k : Int} (hn : n = LV.length) (hs : SmallE (LV.map (·.1))) (ho : OwnLE w lo hi (.slice A n c) (renLE k LV)) (h0 : 0 ≤ k) (h1 : k ≤ 3298000000000) :
    Calls Try.prog 69 #[.slice A n c, .int .i64 k] w fun e w' => e = .returned (.int .i64 (k + szE LV)) ∧ w = w' := by
  subst hn
  exact heldEntryS_any w A c _ _ LV k (by have := hs.1; rwa [List.length_map] at this) (fun p hp => hs.2 p.1 (List.mem_map_of_mem hp)) ho.rdE h0 h1
end Go.Proofs.Ythoakomccjjhbaa
