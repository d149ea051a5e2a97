/- The walks of the draws of a store with a log and of two stores; replaying and getting in the laws' words. -/
import Derived.Test.YtejbfmnioomkbaaDrawE
import Derived.Test.YtejbfmnioomkbaaRepL
namespace Go.Proofs.Ytejbfmnioomkbaa
open Go.RowKit
set_option linter.unusedVariables false
set_option maxRecDepth 100000

theorem cellsE_setKey {LV : List (M.Entry × Value)} : ∀ {j : Nat} {x : M.Entry} {u : Value} {k : Int}, LV[j]? = some (x, u) → (cellsE LV).set (j * 4 + 1) (.int .i64 k) = cellsE (LV.set j ({ x with item := { x.item with key := k } }, u)) := by
  induction LV with
  | nil => intro j x u k h; simp at h
  | cons q r ih =>
    intro j x u k h
    have hc : ∀ (q : M.Entry × Value) r, cellsE (q :: r) = .int .i64 q.1.kind :: .int .i64 q.1.item.key :: q.2 :: .int .i64 q.1.item.tags :: cellsE r := fun _ _ => rfl
    cases j with
    | zero =>
      simp at h
      subst h
      rfl
    | succ j =>
      rw [hc, show (j + 1) * 4 + 1 = (j * 4 + 1) + 1 + 1 + 1 + 1 from by omega]
      simp only [List.set_cons_succ]
      rw [hc, ih (by simpa using h)]
theorem semi_set {w : World} {lo b n c i : Nat} {LV : List (M.Entry × Value)} {y : M.Entry} {u : Value} {k : Int} (hO : w.ownsRow lo 38 4 (.slice (some ⟨b, 0, none⟩) n c) n (cellsE LV)) (hn : LV.length = n) (hI : ∀ p ∈ LV, TV w lo w.heap.size p.2 p.1.item.pos) (hy : LV[i]? = some (y, u)) :
    SemiE (w.setCell ⟨b, i * 4 + 1, none⟩ (.int .i64 k)) lo (.slice (some ⟨b, 0, none⟩) n c) ((LV.set i ({ y with item := { y.item with key := k } }, u)).map (·.1)) := by
  have hs := hO.stored (i * 4 + 1) (.int .i64 k)
  rw [cellsE_setKey hy] at hs
  refine ⟨_, rfl, by rw [List.length_set, hn]; exact hs.1, fun p hp => ?_⟩
  have hk : ∀ p ∈ LV, TV (w.setCell ⟨b, i * 4 + 1, none⟩ (.int .i64 k)) lo (w.setCell ⟨b, i * 4 + 1, none⟩ (.int .i64 k)).heap.size p.2 p.1.item.pos := fun p hp =>
    ((hI p hp).kept hO (by decide) (by simpa [Value.ownBlock] using hs.2)).wide (Nat.le_refl _) (by simp only [World.size_setCell]; exact Nat.le_refl _)
  rcases List.mem_or_eq_of_mem_set hp with hp | hp
  · exact hk p hp
  · subst hp
    exact hk (y, u) (List.mem_of_getElem? hy)

/-- a store and a log were drawn -/
def DrewSE (w : World) (e : Ending) (w' : World) : Prop :=
  ∃ (A : Option Addr) (c : Nat) (L : List M.Item) (B : Option Addr) (d : Nat) (l : List M.Entry), e = .returned (.tuple #[.slice A L.length c, .slice B l.length d]) ∧ L.length ≤ c ∧ l.length ≤ d ∧ SeesI w' A L ∧ SeesE w' B l ∧ w.grownBy w' none
theorem drewSE_of {w w' : World} {lo hi h0 : Nat} {A B : Option Addr} {c d n : Nat} {L : List M.Item} {l : List M.Entry} (hc : L.length ≤ c) (hn : l.length = n) (ho : SemiE w' lo (.slice B n d) l) (hl : n ≤ 34) (hx : ∀ x ∈ l, x.item.pos.length ≤ 5) (hd : RdI w' hi h0 A L) (hs : Small L) (hh : h0 ≤ w'.heap.size) (hg : w.grownBy w' none) :
    DrewSE w (.returned (.tuple #[.slice A L.length c, .slice B n d])) w' := by
  subst hn
  obtain ⟨B', d', e, hd', hrd⟩ := ho.rd
  injection e with e1 e2 e3
  subst e1 e3
  exact ⟨A, c, L, B, d, l, rfl, hc, hd', ⟨hd.wide (Nat.zero_le _) hh, hs⟩, ⟨hrd.wide (Nat.zero_le _) (Nat.le_refl _), by omega, fun x hx' => by have := hx x hx'; omega⟩, hg⟩

/-! replaying and getting, in the laws' words -/
def GotR (w : World) (r : List M.Item × Int) (e : Ending) (w' : World) : Prop :=
  ∃ A c, e = .returned (.tuple #[.slice A r.1.length c, .int .i64 r.2]) ∧ r.1.length ≤ c ∧ SeesI w' A r.1 ∧ w.grownBy w' none
theorem small_replay {L : List M.Item} {l : List M.Entry} : Small (M.ReplayLog L l).1 := by
  unfold M.ReplayLog
  split
  · rename_i h
    exact Small.of_valid (M.replay_valid l L h.1)
  · exact Small.nil_
theorem gotR_made {w w' : World} {r : List M.Item × Int} {e : Ending} (hs : Small r.1) (h : RepMade w r e w') : GotR w r e w' := by
  obtain ⟨A, c, rfl, hc, ho, hg⟩ := h
  exact ⟨A, c, rfl, hc, ho.sees hs, hg⟩
theorem rl_impl {w : World} {A B : Option Addr} {c d : Nat} {L : List M.Item} {l : List M.Entry} (D : SeesI w A L) (E : SeesE w B l) : Calls Try.prog 13 #[.slice A L.length c, .slice B l.length d] w (GotR w (M.ReplayLog L l)) :=
  (ReplayLog_impl D E).mono fun _ _ h => gotR_made small_replay h
theorem rl_spec {w : World} {A B : Option Addr} {c d : Nat} {L : List M.Item} {l : List M.Entry} (D : SeesI w A L) (E : SeesE w B l) : Calls Try.prog 41 #[.slice A L.length c, .slice B l.length d] w (GotR w (M.ReplayLog L l)) :=
  (ReplayLog_spec D E).mono fun _ _ h => gotR_made small_replay h
theorem rlog_eq {L : List M.Item} {l : List M.Entry} (h1 : M.validStore L = true) (h2 : M.validLog l = true) : M.ReplayLog L l = ((M.replay L l).1, ((M.replay L l).2 : Int)) := by
  unfold M.ReplayLog
  rw [if_pos ⟨h1, h2⟩]
theorem SeesE.drop' {w : World} {A : Option Addr} {L : List M.Entry} (h : SeesE w A L) (k : Nat) : SeesE w (A.map fun x => x.add (k * 4)) (L.drop k) := by
  refine ⟨fun hn => ?_, h.2.drop k⟩
  have hne : L ≠ [] := by intro e; subst e; simp at hn
  obtain ⟨b, o, rfl, _⟩ := h.1 hne
  have he : (some (⟨b, o, none⟩ : Addr)).map (fun x => x.add (k * 4)) = (some (⟨b, o, none⟩ : Addr)).map (fun x => (⟨x.block, x.off + k * 4, none⟩ : Addr)) := by
    simp only [Option.map_some, Addr.add]
    split <;> simp_all
  rw [he]
  exact (h.1.drop k) hn
end Go.Proofs.Ytejbfmnioomkbaa
